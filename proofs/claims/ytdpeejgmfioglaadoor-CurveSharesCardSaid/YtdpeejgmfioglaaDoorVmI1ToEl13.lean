/- A part of the proof: laws of a small machine of values, or what one function answers, proved against the model; no conditions beyond those in each theorem. -/
import Derived.Lib.OthersKept
import Derived.Test.YtdpeejgmfioglaaDoorTypesToVmU
import Derived.Test.YtdpeejgmfioglaaDoorShelfMulToEl12
set_option linter.unusedVariables false
set_option linter.unusedSimpArgs false
set_option linter.unusedSectionVars false
section
namespace Go.Vm
open Go Go.RowKit
/-- The iterator of the string S stands in the machine's block of b, at pos; no block that is written lies there; it is younger than w0. -/
structure Iter (S : ByteArray) (b : Nat) (w0 : World) (ρ : Nat → Nat × Nat) (s : St) (w : World) (pos : Nat) : Prop where
  lt : b < s.H.length
  zero : (ρ b).2 = 0
  young : w0.heap.size ≤ (ρ b).1
  here : w.heap[(ρ b).1]? = some (.stringIter S pos)
  own : ∀ b' B, getH s.H b' = some B → B.ro = false → (ρ b').1 ≠ (ρ b).1
theorem Iter.step {S : ByteArray} {b m : Nat} {w0 w w' : World} {ρ ρ' : Nat → Nat × Nat} {s s' : St} {pos : Nat} (h : Iter S b w0 ρ s w pos) (k : Step m ρ s w ρ' s' w') (hb : b < m) : Iter S b w0 ρ' s' w' pos := by
  obtain ⟨k1, k2, k3⟩ := k
  have e := k2 b hb
  have hlt : (ρ b).1 < w.heap.size := (Array.getElem?_eq_some_iff.1 h.here).1
  refine ⟨by omega, by rw [e]; exact h.zero, by rw [e]; exact h.young, ?_, ?_⟩
  · rw [e, k3.keep _ hlt (fun b' B h1 h2 => h.own b' B h1 h2)]; exact h.here
  · intro b' B hB hro
    rw [e]
    rcases k3.own b' B hB hro with ⟨b0, B0, g1, g2, g3⟩ | g
    · rw [← g3]; exact h.own b0 B0 g1 g2
    · omega
theorem iterAt_cell (w : World) (k : Nat) (S : ByteArray) (pos pos' : Nat) (h : w.heap[k]? = some (.stringIter S pos)) (a : Addr) : (w.iterAt k S pos').cell? a = w.cell? a := by
  unfold World.cell?
  by_cases e : a.block = k
  · rw [e, h, Lib.iterAt_heap w k S pos pos' h]
  · rw [Lib.iterAt_other w k _ S pos' e]
theorem iterAt_frozen (w : World) (k : Nat) (S : ByteArray) (pos pos' : Nat) (h : w.heap[k]? = some (.stringIter S pos)) (a : Addr) : (w.iterAt k S pos').frozen? a = w.frozen? a := by
  unfold World.frozen?
  by_cases e : a.block = k
  · rw [e, h, Lib.iterAt_heap w k S pos pos' h]
  · rw [Lib.iterAt_other w k _ S pos' e]
section
variable {P : Program} {n : Nat} {S : ByteArray} {b : Nat} {w0 w : World} {ρ : Nat → Nat × Nat} {s : St} {a : Act} {pos : Nat}
theorem lasts_iterAt (h : w.heap[b]? = some (.stringIter S pos)) (pos' : Nat) : Lasts w (w.iterAt b S pos') := fun p o hp => by
  rw [iterAt_cell w b S pos pos' h, iterAt_frozen w b S pos pos' h]; exact ⟨hp, id⟩
/-- The iterator has gone on: all that the state says holds still. -/
theorem RelSt.iterAt (hr : RelSt ρ n s a w) {k : Nat} (h : w.heap[k]? = some (.stringIter S pos)) (pos' : Nat) : RelSt ρ n s a (w.iterAt k S pos') :=
  ⟨hr.tmps.mono (fun _ _ => rfl) (fun _ h => h) (lasts_iterAt h pos'), hr.mem.has, fun b B hB => by rw [Lib.iterAt_size]; exact hr.mem.lt b B hB, hr.mem.inj,
    fun b B hB i v hv => by
      obtain ⟨r, g1, g2⟩ := hr.mem.cell b B hB i v hv
      exact ⟨r, by rw [iterAt_cell w k S pos pos' h]; exact g1, g2.mono (fun _ _ => rfl) (fun _ h => h) (lasts_iterAt h pos')⟩,
    fun b B hB ho i hi => by rw [iterAt_frozen w k S pos pos' h]; exact hr.mem.free b B hB ho i hi⟩
theorem Step.iterAt {m : Nat} {ρ0 : Nat → Nat × Nat} {s0 : St} (h : Step m ρ0 s0 w0 ρ s w) {k : Nat} (hk : w.heap[k]? = some (.stringIter S pos)) (hy : w0.heap.size ≤ k) (pos' : Nat) : Step m ρ0 s0 w0 ρ s (w.iterAt k S pos') :=
  ⟨h.1, h.2.1, h.2.2.os, h.2.2.output, h.2.2.tape, by rw [Lib.iterAt_size]; exact h.2.2.size,
    fun r hr hb => by rw [Lib.iterAt_other w k r S pos' (by omega)]; exact h.2.2.keep r hr hb,
    h.2.2.lasts.trans (lasts_iterAt hk pos'), h.2.2.own⟩
/-- What one 'next' answers. -/
def nextV (S : ByteArray) (pos : Nat) : V := if pos < S.size then .tup [.bool true, .i64 pos, .i32 ((bytesOf S).getD pos 0).toNat] else .tup [.bool false]
theorem bytesOf_getD (S : ByteArray) (pos : Nat) (h : pos < S.size) : ((bytesOf S).getD pos 0).toNat = (S[pos]'h).toNat := by
  have hl : pos < S.data.toList.length := by rw [Array.length_toList]; exact h
  unfold bytesOf
  rw [List.getD_eq_getElem?_getD, List.getElem?_map, List.getElem?_eq_getElem hl]
  rfl
theorem next_run (hi : Iter S b w0 ρ s w pos) (ha : ∀ p, (h : p < S.size) → (S[p]'h).toNat < 128) (ty : TypeId) :
    ∃ r w', (Instr.next (.pointer (some ⟨(ρ b).1, 0, none⟩)) true ty).run P w = .ok r w' ∧ VR ρ (· < s.H.length) w' (nextV S pos) r ∧ (w' = w.iterAt (ρ b).1 S (if pos < S.size then pos + 1 else pos) ∨ (w' = w ∧ ¬ pos < S.size)) := by
  unfold nextV
  by_cases hp : pos < S.size
  · refine ⟨_, _, Lib.run_next_ascii_at w _ S pos ty hi.here hp (ha pos hp), ?_, .inl (by rw [if_pos hp])⟩
    rw [if_pos hp, bytesOf_getD S pos hp]
    unfold VR
    refine ⟨_, rfl, ?_⟩
    unfold VRs
    refine ⟨_, _, rfl, by unfold VR; rfl, ?_⟩
    unfold VRs
    refine ⟨_, _, rfl, by unfold VR; rfl, ?_⟩
    unfold VRs
    refine ⟨_, _, rfl, by unfold VR; rfl, ?_⟩
    unfold VRs; rfl
  · refine ⟨_, _, Lib.run_next_end_at w _ S pos ty hi.here hp, ?_, .inr ⟨rfl, hp⟩⟩
    rw [if_neg hp]
    unfold VR
    refine ⟨_, rfl, ?_⟩
    unfold VRs
    refine ⟨_, _, rfl, by unfold VR; rfl, ?_⟩
    unfold VRs; rfl
/-- A region that begins with 'next'. -/
theorem next_sound {m0 : Nat} {ρ0 : Nat → Nat × Nat} {s0 : St} {id : Nat} {o : Oper} {os : List Oper} {ops : Array Oper} {tit tn : Tmp} {K : St → Prop} {Q : Exit → Act → World → Prop}
    (hops : ops.toList = o :: os) (ho : o.op = .next (.tmp tit) true) (hg : o.guard = none) (hd : o.dst = some tn) (htn : tn < n) (ht : s.get tit = .ptr b 0)
    (hr : RelSt ρ n s a w) (hi : Iter S b w0 ρ s w pos) (ha : ∀ p, (h : p < S.size) → (S[p]'h).toNat < 128) (hs : Step m0 ρ0 s0 w0 ρ s w) (hm : b < m0 ∨ b + 1 ≤ s.H.length)
    (hk : vops P n ops os (s.put (some tn) (nextV S pos)) K)
    (hq : ∀ a' w' s' ρ', K s' → RelSt ρ' n s' a' w' → Step m0 ρ0 s0 w0 ρ' s' w' → Iter S b w0 ρ' s' w' (if pos < S.size then pos + 1 else pos) → Q .normal a' w') : (Code.region id ops false).wp P Q a w := by
  refine wp_region ?_
  have hsz : ops.size = os.length + 1 := by rw [← Array.length_toList, hops]; rfl
  rw [hsz, List.range_succ_eq_map]
  have h0 : ops[0]? = some o := by rw [← Array.getElem?_toList, hops]; rfl
  have hv := hr.tmps.slot tit
  rw [show s.get tit = .ptr b 0 from ht] at hv
  unfold VR at hv
  obtain ⟨hb, hv⟩ := hv
  rw [hi.zero, Nat.zero_add] at hv
  have hwant : Region.wanted o (yielded ops a.tmps) = true := by unfold Region.wanted; rw [hg]
  obtain ⟨r, w', hrun, hvr, hw⟩ := next_run (P := P) hi ha o.type
  simp only [wpOps, h0, hwant, if_true]
  refine .inl ?_
  have hex : (execOp a.eval o).run P w = .ok (.value r) w' := by
    unfold execOp
    rw [ho]
    simp only [Act.eval, hv, Sem.run_bind, hrun, Result.andThen_ok, Sem.run_pure]
  unfold Oper.wp
  rw [hex, Oper.upon_value, hd]
  have hfin : RelSt ρ n (s.put (some tn) (nextV S pos)) (a.put (some tn) r) w' ∧ Step m0 ρ0 s0 w0 ρ (s.put (some tn) (nextV S pos)) w' ∧ Iter S b w0 ρ (s.put (some tn) (nextV S pos)) w' (if pos < S.size then pos + 1 else pos) := by
    rcases hw with rfl | ⟨rfl, hp⟩
    · have h1 := hr.iterAt hi.here (if pos < S.size then pos + 1 else pos)
      exact ⟨⟨RelT.put h1.tmps (show dstOk n (some tn) from htn) hvr, h1.mem⟩, hs.iterAt hi.here hi.young _, hi.lt, hi.zero, hi.young, Lib.iterAt_heap w _ S pos _ hi.here, hi.own⟩
    · rw [if_neg hp]
      exact ⟨⟨RelT.put hr.tmps (show dstOk n (some tn) from htn) hvr, hr.mem⟩, hs, hi.lt, hi.zero, hi.young, hi.here, hi.own⟩
  obtain ⟨f1, f2, f3⟩ := hfin
  have hlen : b + 1 ≤ (s.put (some tn) (nextV S pos)).H.length := hi.lt
  refine vops_sound (m := max m0 (b + 1)) (List.map Nat.succ (List.range os.length)) os _ K ?_ hk ρ _ w' f1 (by have := f2.1; omega) ?_
  · refine List.ext_getElem? fun i => ?_
    simp only [List.getElem?_map]
    by_cases hi2 : i < os.length
    · have : ops[i + 1]? = os[i]? := by rw [← Array.getElem?_toList, hops]; rfl
      simp [List.getElem?_range hi2, hi2, this]
    · rw [List.getElem?_eq_none (by simp; omega), List.getElem?_eq_none (by omega)]; rfl
  · rintro a' w'' ⟨s', ρ', q1, q2, q3⟩
    have q4 : Step m0 ρ (s.put (some tn) (nextV S pos)) w' ρ' s' w'' := ⟨by have := q3.1; omega, fun x hx => q3.2.1 x (by omega), q3.2.2⟩
    exact hq a' w'' s' ρ' q1 q2 (f2.trans q4) (f3.step q3 (by omega))
end
end Go.Vm
end
section
namespace Go.Vm
open Go Go.RowKit
section
variable {P : Program} {m n : Nat}
/-- What is to be shown of a piece of code, told in the machine's words. -/
def GS (P : Program) (m n : Nat) (c : Code) (Q : Exit → St → Prop) (s : St) : Prop :=
  ∀ (ρ : Nat → Nat × Nat) (a : Act) (w : World), RelSt ρ n s a w → m ≤ s.H.length → c.wp P (LiftE m n ρ s w Q) a w
theorem gs_of_vc (hmix : P.follows .mixedOrders = true) {c : Code} {Q : Exit → St → Prop} {s : St} (h : vc P m n c Q s) : GS P m n c Q s := fun ρ a w hr hm => vc_sound hmix c Q s h ρ a w hr hm
theorem gs_seq {x y : Code} {K : St → Prop} {Q : Exit → St → Prop} {s : St} (hx : GS P m n x (seqQ K Q) s) (hy : ∀ s', K s' → GS P m n y Q s') : GS P m n (.seq x y) Q s := fun ρ a w hr hm => by
  refine wp_seq (wp_mono (hx ρ a w hr hm) ?_)
  rintro e a' w' ⟨s', ρ', q1, q2, q3⟩
  cases e
  case normal => exact wp_mono (hy s' q1 ρ' a' w' q2 q3.1) fun e a'' w'' ⟨s'', ρ'', r1, r2, r3⟩ => ⟨s'', ρ'', r1, r2, q3.trans r3⟩
  all_goals exact ⟨s', ρ', q1, q2, q3⟩
theorem iter_start {ρ : Nat → Nat × Nat} {s : St} {a : Act} {w : World} {tit : Tmp} (hr : RelSt ρ n s a w) (hm : m ≤ s.H.length) (ht : tit < n) (S : ByteArray) :
    let ρ1 := fun k => if k = s.H.length then (w.heap.size, 0) else ρ k
    let s1 : St := ⟨putS s.t (some tit) (.ptr s.H.length 0), s.H ++ [none]⟩
    RelSt ρ1 n s1 (a.put (some tit) (.pointer (some ⟨w.heap.size, 0, none⟩))) (w.iter S 0) ∧ Step m ρ s w ρ1 s1 (w.iter S 0) ∧ Iter S s.H.length w ρ1 s1 (w.iter S 0) 0 := by
  intro ρ1 s1
  have hlen : s1.H.length = s.H.length + 1 := by simp [s1]
  have hget : ∀ b B, getH s1.H b = some B → getH s.H b = some B ∧ b < s.H.length := fun b B hB => by
    have hB : ((s.H ++ [none])[b]?).join = some B := hB
    by_cases hb : b < s.H.length
    · rw [List.getElem?_append_left hb] at hB; exact ⟨hB, hb⟩
    · rw [List.getElem?_append_right (by omega)] at hB
      by_cases hb2 : b - s.H.length = 0
      · rw [hb2] at hB; simp at hB
      · rw [List.getElem?_eq_none (by simp; omega)] at hB; simp at hB
  have hρ : ∀ b, b < s.H.length → ρ1 b = ρ b := fun b hb => if_neg (by omega)
  have hlast : Lasts w (w.iter S 0) := lasts_alloc w _
  have hold : ∀ r, r < w.heap.size → (w.iter S 0).heap[r]? = w.heap[r]? := fun r h => Lib.alloc_old w _ r h
  have hsize : (w.iter S 0).heap.size = w.heap.size + 1 := Array.size_push ..
  have hcell : ∀ b B, getH s.H b = some B → ∀ i, (w.iter S 0).cell? ⟨(ρ b).1, i, none⟩ = w.cell? ⟨(ρ b).1, i, none⟩ := fun b B hB i => World.cell?_of_block (hold _ (hr.mem.lt b B hB))
  have hfroz : ∀ b B, getH s.H b = some B → ∀ i, (w.iter S 0).frozen? ⟨(ρ b).1, i, none⟩ = w.frozen? ⟨(ρ b).1, i, none⟩ := fun b B hB i => World.frozen?_of_block (hold _ (hr.mem.lt b B hB))
  have hdom : ∀ b, b < s.H.length → b < s1.H.length := fun b hb => by omega
  refine ⟨⟨?_, ?_⟩, ⟨by omega, fun b hb => hρ b (by omega), ?_⟩, ?_⟩
  · refine RelT.put (hr.tmps.mono hρ hdom hlast) (show dstOk n (some tit) from ht) ?_
    unfold VR
    refine ⟨by omega, ?_⟩
    show _ = Value.pointer (some ⟨(ρ1 s.H.length).1, (ρ1 s.H.length).2 + 0, none⟩)
    have e : ρ1 s.H.length = (w.heap.size, 0) := if_pos rfl
    rw [e]
  · refine ⟨fun b B hB => hdom b (hget b B hB).2, fun b B hB => ?_, fun b b' B B' hB hB' hro hne => ?_, fun b B hB i v hv => ?_, fun b B hB ho i hi => ?_⟩
    · obtain ⟨h1, h2⟩ := hget b B hB
      rw [hρ b h2, hsize]
      have := hr.mem.lt b B h1
      omega
    · obtain ⟨h1, h2⟩ := hget b B hB
      obtain ⟨h3, h4⟩ := hget b' B' hB'
      rw [hρ b h2, hρ b' h4]
      exact hr.mem.inj b b' B B' h1 h3 hro hne
    · obtain ⟨h1, h2⟩ := hget b B hB
      obtain ⟨r, g1, g2⟩ := hr.mem.cell b B h1 i v hv
      exact ⟨r, by rw [hρ b h2, hcell b B h1]; exact g1, g2.mono hρ hdom hlast⟩
    · obtain ⟨h1, h2⟩ := hget b B hB
      rw [hρ b h2, hfroz b B h1]
      exact hr.mem.free b B h1 ho i hi
  · refine ⟨rfl, rfl, rfl, by omega, fun r hr2 _ => hold r hr2, hlast, fun b B hB ho => ?_⟩
    obtain ⟨h1, h2⟩ := hget b B hB
    exact .inl ⟨b, B, h1, ho, by rw [hρ b h2]⟩
  · have e : ρ1 s.H.length = (w.heap.size, 0) := if_pos rfl
    refine ⟨by omega, by rw [e], by rw [e]; exact Nat.le_refl _, by rw [e]; exact World.iter_heap w S 0, fun b B hB ho => ?_⟩
    obtain ⟨h1, h2⟩ := hget b B hB
    rw [e, hρ b h2]
    have := hr.mem.lt b B h1
    show (ρ b).1 ≠ w.heap.size
    omega
/-- A loop over a string: J tells of the state ahead of each round; no byte is 128 or above; each round ends as usual. -/
theorem gs_range (hmix : P.follows .mixedOrders = true) {rid r3 bid : Nat} {o1 o2 o3 o4 : Oper} {tz tit tn tok : Tmp} {x : Operand} {ty : TypeId} {body : Code} {s : St} {bs : List (BitVec 8)} {K : St → Prop} {Q : Exit → St → Prop} (J : Nat → St)
    (h1 : o1.op = .move x) (g1 : o1.guard = none) (d1 : o1.dst = some tz) (z1 : tz < n)
    (h2 : o2.op = .range ty (.tmp tz)) (g2 : o2.guard = none) (d2 : o2.dst = some tit) (z2 : tit < n) (hty : P.underlying ty = some .string)
    (h3 : o3.op = .next (.tmp tit) true) (g3 : o3.guard = none) (d3 : o3.dst = some tn) (z3 : tn < n)
    (hx : s.ev x = .str bs) (hb : ∀ c ∈ bs, c.toNat < 128)
    (hJ0 : Weak (max m (s.H.length + 1)) n ⟨putS (putS s.t (some tz) (.str bs)) (some tit) (.ptr s.H.length 0), s.H ++ [none]⟩ (J 0))
    (hJt : ∀ i, (J i).get tit = .ptr s.H.length 0)
    (hreg : ∀ i, i ≤ bs.length → vops P n #[o3, o4] [o4] ((J i).put (some tn) (if i < bs.length then .tup [.bool true, .i64 i, .i32 ((bs.getD i 0).toNat : Nat)] else .tup [.bool false])) fun s' => s'.get tok = .bool (decide (i < bs.length)) ∧
      (if i < bs.length then vc P (max m (s.H.length + 1)) n body (fun e s'' => e = .normal ∧ Weak (max m (s.H.length + 1)) n s'' (J (i + 1))) s' else K s')) :
    GS P m n (.seq (.region rid #[o1, o2] false) (.block bid (.loop (.seq (.region r3 #[o3, o4] false) (.seq (.cond (.tmp tok) .skip (.exit bid)) body))))) (seqQ K Q) s := by
  intro ρ a w hr hm
  have hxv := hr.tmps.eval x
  rw [hx] at hxv
  unfold VR at hxv
  obtain ⟨S, hS, hbs⟩ := hxv
  have hsz : S.size = bs.length := by rw [← hbs, bytesOf_length]
  have ha : ∀ p, (h : p < S.size) → (S[p]'h).toNat < 128 := fun p h => by
    rw [← bytesOf_getD S p h, hbs]
    refine hb _ ?_
    rw [List.getD_eq_getElem?_getD, List.getElem?_eq_getElem (by omega : p < bs.length)]
    exact List.getElem_mem _
  have hnv : ∀ i, nextV S i = (if i < bs.length then .tup [.bool true, .i64 i, .i32 ((bs.getD i 0).toNat : Nat)] else .tup [.bool false]) := fun i => by
    unfold nextV; rw [hsz, hbs]
  -- the two operations ahead
  refine wp_seq (wp_region ?_)
  have k1 : (execOp a.eval o1).run P w = .ok (.value (.string S)) w := by
    unfold execOp
    rw [h1]
    simp only [hS, Sem.run_bind, Result.andThen_ok, Sem.run_pure]
  have w1 : Region.wanted o1 (yielded #[o1, o2] a.tmps) = true := by unfold Region.wanted; rw [g1]
  show wpOps P #[o1, o2] _ [0, 1] a w
  simp only [wpOps, List.getElem?_toArray, List.getElem?_cons_zero, w1, if_true]
  refine .inl ?_
  unfold Oper.wp
  rw [k1, Oper.upon_value, d1]
  have hr1 : RelSt ρ n (s.put (some tz) (.str bs)) (a.put (some tz) (.string S)) w := ⟨RelT.put hr.tmps (show dstOk n (some tz) from z1) (by unfold VR; exact ⟨S, rfl, hbs⟩), hr.mem⟩
  have hzv := hr1.tmps.slot tz
  have w2 : Region.wanted o2 (yielded #[o1, o2] (a.put (some tz) (.string S)).tmps) = true := by unfold Region.wanted; rw [g2]
  have hz : (a.put (some tz) (.string S)).tmps.getD tz undef = .string S := by
    rw [put_tmps a tz _ tz (by rw [hr.tmps.size]; exact z1), if_pos rfl]
  have k2 : (execOp (a.put (some tz) (.string S)).eval o2).run P w = .ok (.value (.pointer (some ⟨w.heap.size, 0, none⟩))) (w.iter S 0) := by
    unfold execOp
    rw [h2]
    simp only [Act.eval, hz, Sem.run_bind, run_range_string w ty S hty, Result.andThen_ok, Sem.run_pure]
  simp only [List.getElem?_cons_succ, List.getElem?_cons_zero, w2, if_true]
  refine .inl ?_
  rw [k2, Oper.upon_value, d2]
  obtain ⟨i1, i2, i3⟩ := iter_start (m := m) (tit := tit) hr1 hm z2 S
  have hst0 : Step m ρ s w ρ (s.put (some tz) (.str bs)) w := ⟨hm, fun _ _ => rfl, Frame.refl _ _ _⟩
  have i2 := hst0.trans i2
  have hlen : (s.put (some tz) (.str bs)).H.length = s.H.length := rfl
  simp only [hlen] at i1 i2 i3
  obtain ⟨ρ2, j1, j2⟩ := hJ0 _ _ _ i1 (by simp; omega)
  have i4 := i3.step j2 (by omega)
  have j3 : Step m ρ s w ρ2 (J 0) (w.iter S 0) := i2.trans ⟨by have := j2.1; omega, fun x hx => j2.2.1 x (by omega), j2.2.2⟩
  have j4 : max m (s.H.length + 1) ≤ (J 0).H.length := j2.1
  -- the loop
  refine wp_block ?_
  refine wp_loop_ix (fun k a1 w1 => ∃ i ρ1, i + k = bs.length ∧ RelSt ρ1 n (J i) a1 w1 ∧ Step m ρ s w ρ1 (J i) w1 ∧ Iter S s.H.length w ρ1 (J i) w1 i ∧ max m (s.H.length + 1) ≤ (J i).H.length) (k0 := bs.length) ⟨0, ρ2, by omega, j1, j3, i4, j4⟩ ?_
  rintro k a1 w1 ⟨i, ρ1, hik, r1, r2, r3, r4⟩
  have hvo := hreg i (by omega)
  rw [← hnv i] at hvo
  refine wp_seq (next_sound (m0 := m) (ρ0 := ρ) (s0 := s) (K := fun s' => s'.get tok = .bool (decide (i < bs.length)) ∧
      (if i < bs.length then vc P (max m (s.H.length + 1)) n body (fun e s'' => e = .normal ∧ Weak (max m (s.H.length + 1)) n s'' (J (i + 1))) s' else K s')) rfl h3 g3 d3 z3 (hJt i) r1 r3 ha r2 (.inr (by omega)) hvo ?_)
  rintro a2 w2' s2 ρ3 ⟨q0, q1⟩ q2 q3 q4
  have hev := q2.tmps.slot tok
  rw [show s2.get tok = .bool (decide (i < bs.length)) from q0] at hev
  unfold VR at hev
  show Code.wp P _ _ a2 w2'
  refine wp_seq (wp_cond_split hev ?_ ?_)
  · intro hT
    have hi : i < bs.length := of_decide_eq_true hT
    rw [if_pos hi] at q1
    rw [if_pos (by omega : i < S.size)] at q4
    refine wp_skip ?_
    show Code.wp P _ _ a2 w2'
    have hml : max m (s.H.length + 1) ≤ s2.H.length := by
      have h1 := q3.1
      have h2 := q4.lt
      omega
    refine wp_mono (vc_sound hmix body _ s2 q1 ρ3 a2 w2' q2 hml) ?_
    rintro e a3 w3 ⟨s3, ρ4, ⟨rfl, t1⟩, t2, t3⟩
    obtain ⟨ρ5, u1, u2⟩ := t1 ρ4 a3 w3 t2 t3.1
    have t4 := t3.trans u2
    refine ⟨k - 1, by omega, i + 1, ρ5, by omega, u1, q3.trans ⟨by have := t4.1; omega, fun x hx => t4.2.1 x (by omega), t4.2.2⟩, q4.step t4 (by omega), t4.1⟩
  · intro hF
    have hi : ¬ i < bs.length := of_decide_eq_false hF
    rw [if_neg hi] at q1
    refine wp_exit ?_
    show Exit.inBlock bid (LiftE m n ρ s w (seqQ K Q)) (.exit bid) a2 w2'
    simp only [Exit.inBlock, if_true]
    exact ⟨s2, ρ3, q1, q2, q3⟩
theorem gs_block {id : Nat} {c : Code} {Q : Exit → St → Prop} {s : St} (h : GS P m n c (blockQ id Q) s) : GS P m n (.block id c) Q s := fun ρ a w hr hm => by
  refine wp_block (wp_mono (h ρ a w hr hm) ?_)
  rintro e a' w' ⟨s', ρ', q1, q2, q3⟩
  cases e
  case exit i =>
    simp only [blockQ] at q1
    simp only [Exit.inBlock]
    split at q1
    · rename_i e; rw [if_pos e]; exact ⟨s', ρ', q1, q2, q3⟩
    · rename_i e; rw [if_neg e]; exact ⟨s', ρ', q1, q2, q3⟩
  all_goals exact ⟨s', ρ', q1, q2, q3⟩
end
theorem gs_weak {P : Program} {m n : Nat} {c : Code} {Q : Exit → St → Prop} {s s1 : St} (h : GS P m n c Q s1) (hw : Weak m n s s1) : GS P m n c Q s := fun ρ a w hr hm => by
  obtain ⟨ρ1, h1, h2⟩ := hw ρ a w hr hm
  refine wp_mono (h ρ1 a w h1 h2.1) ?_
  rintro e a' w' ⟨s', ρ', q1, q2, q3⟩
  exact ⟨s', ρ', q1, q2, h2.trans q3⟩
theorem vops_go {P : Program} {n : Nat} {ops : Array Oper} {l : List Oper} {s : St} {K : St → Prop} (h : goOps P 0 n (fun _ s => K s) l ops [] s) : vops P n ops l s K := h
/-- A pure function out of its code, told in the machine's words. -/
theorem spec0_of_gs {P : Program} {f : FuncId} {fn : Func} {c : Code} {args : List V} {h h' : List (Option Blk)} {v : V} (hf : P.funcs[f]? = some fn) (hb : fn.body = some c) (hn : args.length ≤ fn.ntmps)
    (hv : GS P h.length fn.ntmps c (retQ P fn (Fin h.length v h')) ⟨argsT args 0, h⟩) : Spec0 P f args h v h' := by
  intro ρ w rargs ha hm
  have hal := ha.length
  refine calls_of_wp hf hb (wp_mono (hv ρ _ w ⟨⟨?_, rfl, fun t => ?_⟩, hm⟩ (Nat.le_refl _)) ?_)
  · have : rargs.size = args.length := by simpa using hal
    simp; omega
  · show VR _ _ _ (lookS (argsT args 0) t) _
    rw [look_args]
    split
    · rename_i ht
      obtain ⟨r, g1, g2⟩ := ha.get (i := t) (v := args.getD t .junk) (by rw [List.getD_eq_getElem?_getD, List.getElem?_eq_getElem (by omega)]; rfl)
      have hlt : t < rargs.size := by simpa using (List.getElem?_eq_some_iff.1 g1).1
      simp only [Nat.sub_zero]
      have : (rargs ++ Array.replicate (fn.ntmps - rargs.size) undef).getD t undef = r := by
        rw [Array.getD_eq_getD_getElem?, Array.getElem?_append_left hlt]
        have : rargs[t]? = some r := by rw [← g1]; simp
        rw [this]; rfl
      rw [this]; exact g2
    · unfold VR; trivial
  · rintro e a' w' ⟨s', ρ', q1, q2, q3⟩
    have fin : (vresults P s' fn.results.toList fun l => Fin h.length v h' (vtuple l) s') → ∃ r, (results fn a'.tmps).run P w' = .ok r w' ∧ (∃ r' ρ', Ending.returned r = .returned r' ∧ VR ρ' (· < h'.length) w' v r' ∧ MemRel ρ' (· < h'.length) (getH h') w' ∧ h.length ≤ h'.length ∧ (∀ b, b < h.length → ρ' b = ρ b) ∧ Frame ρ (getH h) w ρ' (getH h') w') := fun q => by
      obtain ⟨v1, r, g1, g2, g3⟩ := results_sound q2 q
      obtain ⟨ρ2, k1, k2, k3, k4⟩ := g1.2 ρ' w' r g2 q2.mem q3.1
      exact ⟨r, g3, r, ρ2, rfl, k1, k2, g1.1, fun b hb => (k3 b hb).trans (q3.2.1 b hb), q3.2.2.less k4⟩
    cases e
    case normal => exact ⟨q2.tmps.defers, fin q1⟩
    case ret => exact ⟨q2.tmps.defers, fin q1⟩
    all_goals exact q1.elim
theorem pure_of_gs {P : Program} {f : FuncId} {fn : Func} {c : Code} {args : List V} {v : V} (hc : callable P f = true) (hf : P.funcs[f]? = some fn) (hb : fn.body = some c) (hn : args.length ≤ fn.ntmps) (ha : lows 0 args)
    (hv : GS P 0 fn.ntmps c (retQ P fn (Fin 0 v [])) ⟨argsT args 0, []⟩) : PureFn P f args v := pure_of_spec0 hc ha (spec0_of_gs hf hb hn hv)
end Go.Vm
end
section
namespace Go.Vm
open Go.Proofs
set_option maxRecDepth 20000
def oneI : List Int := [1, 0, 0, 0, 0, 0, 0, 0, 0, 0, 0, 0, 0, 0, 0, 0]
theorem ok_one : okI oneI := ⟨rfl, by decide⟩
/-- The power behind c bits of a text. -/
def accI (m : List Int) (s : List (BitVec 8)) : Nat → List Int
  | 0 => oneI
  | c + 1 => if s.getD c 0 = 49#8 then timesI (timesI (accI m s c) (accI m s c)) m else timesI (accI m s c) (accI m s c)
theorem accI_ok (m : List Int) (s : List (BitVec 8)) (hm : okI m) (c : Nat) : okI (accI m s c) := by
  induction c with
  | zero => exact ok_one
  | succ c ih =>
    rw [accI]
    split
    · exact (timesI_val _ _ (timesI_val _ _ ih ih).1 hm).1
    · exact (timesI_val _ _ ih ih).1
/-- The number that a text of bits tells. -/
def numS (s : List (BitVec 8)) : Nat → Nat
  | 0 => 0
  | c + 1 => if s.getD c 0 = 49#8 then 2 * numS s c + 1 else 2 * numS s c
theorem accI_val (m : List Int) (s : List (BitVec 8)) (hm : okI m) (c : Nat) : valI (accI m s c) % Pi5 = valI m ^ numS s c % Pi5 := by
  induction c with
  | zero =>
    show valI oneI % Pi5 = valI m ^ 0 % Pi5
    rw [Int.pow_zero]; decide
  | succ c ih =>
    have hs := accI_ok m s hm c
    have t1 := timesI_val _ _ hs hs
    have t2 := timesI_val _ _ t1.1 hm
    have hsq : valI (timesI (accI m s c) (accI m s c)) % Pi5 = valI m ^ (2 * numS s c) % Pi5 := by
      rw [t1.2, Int.mul_emod, ih, ← Int.mul_emod, ← Int.pow_add, Nat.two_mul]
    rw [accI, numS]
    by_cases h : s.getD c 0 = 49#8
    · rw [if_pos h, if_pos h, t2.2, Int.mul_emod, hsq, ← Int.mul_emod, Int.pow_succ]
    · rw [if_neg h, if_neg h, hsq]
theorem str_bytes (s : List (BitVec 8)) (h : ∀ c ∈ s, c.toNat < 128) (i : Nat) : (s.getD i 0).toNat < 128 := by
  by_cases hi : i < s.length
  · rw [List.getD_eq_getElem?_getD, List.getElem?_eq_getElem hi]; exact h _ (List.getElem_mem hi)
  · rw [List.getD_eq_getElem?_getD, List.getElem?_eq_none (by omega)]; decide
theorem powerI_spec (m : List Int) (s : List (BitVec 8)) (hm : okI m) (hs : ∀ c ∈ s, c.toNat < 128) : PureFn Tryd.prog 65 [.agg (m.map .i64), .str s] (.agg ((accI m s s.length).map .i64)) := by
  have hm16 : min 16 16 = 16 := rfl
  have hol : (oneI.map V.i64).length = 16 := rfl
  have hone : [V.i64 1, V.i64 0, V.i64 0, V.i64 0, V.i64 0, V.i64 0, V.i64 0, V.i64 0, V.i64 0, V.i64 0, V.i64 0, V.i64 0, V.i64 0, V.i64 0, V.i64 0, V.i64 0] = (accI m s 0).map V.i64 := rfl
  refine pure_of_gs (by kernel_rfl) (fn := Tryd.f65) Tryd.func65 rfl (by show 2 ≤ 23; decide) (by simp [lows_i64, lows, V.low]) ?_
  refine gs_seq (K := fun st => Weak 0 23 st ⟨[(1, .str s), (2, .ptr 0 0), (4, .ptr 1 0)], [some ⟨false, m.map .i64⟩, some ⟨false, (List.replicate 16 0).map .i64⟩]⟩) (gs_of_vc (by kernel_rfl) (go_start ?_)) (fun st hst => gs_weak ?_ hst)
  · simp only [go_sem, ↓reduceIte, Nat.reduceEqDiff, Nat.reduceLT, Nat.reduceLeDiff, Nat.reduceAdd, Nat.reduceSub, Nat.reduceMul, Nat.reduceMod, Nat.reduceDiv, Int.reduceLE, Int.reduceLT, Int.reduceToNat, Int.reduceAdd, Int.reduceSub, Int.reduceMul, Int.reduceEq, Int.reduceNeg, BitVec.reduceOfInt, BitVec.reduceToNat, BitVec.reduceEq, BitVec.reduceNe, BitVec.reduceLT, reduceCtorEq, List.forall_mem_nil]
    refine Weak.drop ?_ rfl (fun _ _ h => h)
    simp [St.get, lookS]
  refine gs_seq (K := fun st => Weak 0 23 st ⟨[(1, .str s), (2, .ptr 0 0), (4, .ptr 1 0), (5, .ptr 2 0)], [some ⟨false, m.map .i64⟩, some ⟨false, (List.replicate 16 0).map .i64⟩, some ⟨false, (accI m s 0).map .i64⟩]⟩) (gs_of_vc (by kernel_rfl) (go_start ?_)) (fun st hst => gs_weak ?_ hst)
  · have hal0 := (accI_ok m s hm 0).1
    simp only [go_sem, ↓reduceIte, Nat.reduceEqDiff, Nat.reduceLT, Nat.reduceLeDiff, Nat.reduceAdd, Nat.reduceSub, Nat.reduceMul, Nat.reduceMod, Nat.reduceDiv, Int.reduceLE, Int.reduceLT, Int.reduceToNat, Int.reduceAdd, Int.reduceSub, Int.reduceMul, Int.reduceEq, Int.reduceNeg, BitVec.reduceOfInt, BitVec.reduceToNat, BitVec.reduceEq, BitVec.reduceNe, BitVec.reduceLT, reduceCtorEq, List.forall_mem_nil, hone, hal0, hm16, splice_all, List.take_of_length_le]
    refine Weak.drop ?_ rfl (fun _ _ h => h)
    simp [St.get, lookS]
  have hal : ∀ i, (accI m s i).length = 16 := fun i => (accI_ok m s hm i).1
  refine gs_seq (K := fun st => Weak 0 23 st ⟨[(4, .ptr 1 0), (5, .ptr 2 0)], [some ⟨false, m.map .i64⟩, some ⟨false, (List.replicate 16 0).map .i64⟩, some ⟨false, (accI m s s.length).map .i64⟩, none]⟩)
    (gs_range (by kernel_rfl) (fun i => ⟨[(2, .ptr 0 0), (4, .ptr 1 0), (5, .ptr 2 0), (10, .ptr 3 0)], [some ⟨false, m.map .i64⟩, some ⟨false, (List.replicate 16 0).map .i64⟩, some ⟨false, (accI m s i).map .i64⟩, none]⟩) rfl rfl rfl (by decide) rfl rfl rfl (by decide) Tryd.underlying9 rfl rfl rfl (by decide) (x := .tmp 1) (bs := s) rfl hs ?_ (fun i => rfl) ?_) (fun st hst => gs_weak (gs_of_vc (by kernel_rfl) (go_start ?_)) hst)
  · refine Weak.drop ?_ rfl (fun _ _ h => h)
    simp [St.get, lookS, putS]
  · intro i hil
    refine vops_go ?_
    have h1 := timesI_spec _ _ (accI_ok m s hm i) (accI_ok m s hm i)
    have o1 := (timesI_val _ _ (accI_ok m s hm i) (accI_ok m s hm i)).1
    have h2 := timesI_spec _ _ o1 hm
    have o2 := (timesI_val _ _ o1 hm).1
    have hst : accI m s (i + 1) = if s.getD i 0 = 49#8 then timesI (timesI (accI m s i) (accI m s i)) m else timesI (accI m s i) (accI m s i) := rfl
    have hl0 := hal i
    have hl1 := hal (i + 1)
    by_cases h0 : i < s.length
    · have hT : decide (i < s.length) = true := decide_eq_true h0
      simp only [go_sem, ↓reduceIte, Nat.reduceEqDiff, Nat.reduceLT, Nat.reduceLeDiff, Nat.reduceAdd, Nat.reduceSub, Nat.reduceMul, Nat.reduceMod, Nat.reduceDiv, Int.reduceLE, Int.reduceLT, Int.reduceToNat, Int.reduceAdd, Int.reduceSub, Int.reduceMul, Int.reduceEq, Int.reduceNeg, BitVec.reduceOfInt, BitVec.reduceToNat, BitVec.reduceEq, BitVec.reduceNe, BitVec.reduceLT, reduceCtorEq, List.forall_mem_nil, h0]
      refine go_start ?_
      simp only [go_sem, ↓reduceIte, Nat.reduceEqDiff, Nat.reduceLT, Nat.reduceLeDiff, Nat.reduceAdd, Nat.reduceSub, Nat.reduceMul, Nat.reduceMod, Nat.reduceDiv, Int.reduceLE, Int.reduceLT, Int.reduceToNat, Int.reduceAdd, Int.reduceSub, Int.reduceMul, Int.reduceEq, Int.reduceNeg, BitVec.reduceOfInt, BitVec.reduceToNat, BitVec.reduceEq, BitVec.reduceNe, BitVec.reduceLT, reduceCtorEq, List.forall_mem_nil, hl0, hm16, splice_all, List.take_of_length_le]
      refine goCall_pure0 (h1) ?_
      simp only [go_sem, ↓reduceIte, Nat.reduceEqDiff, Nat.reduceLT, Nat.reduceLeDiff, Nat.reduceAdd, Nat.reduceSub, Nat.reduceMul, Nat.reduceMod, Nat.reduceDiv, Int.reduceLE, Int.reduceLT, Int.reduceToNat, Int.reduceAdd, Int.reduceSub, Int.reduceMul, Int.reduceEq, Int.reduceNeg, BitVec.reduceOfInt, BitVec.reduceToNat, BitVec.reduceEq, BitVec.reduceNe, BitVec.reduceLT, reduceCtorEq, List.forall_mem_nil, o1.1, hl0, hm.1, hm16, splice_all, List.take_of_length_le]
      by_cases hc : s.getD i 0 = 49#8
      · have hc' := eq_true (show ((s.getD i 0).toNat : Int) = 49 by rw [hc]; rfl)
        rw [if_pos hc] at hst
        simp only [hc', if_true]
        rw [← hst] at h2
        refine goCall_pure0 (h2) ?_
        simp only [go_sem, ↓reduceIte, Nat.reduceEqDiff, Nat.reduceLT, Nat.reduceLeDiff, Nat.reduceAdd, Nat.reduceSub, Nat.reduceMul, Nat.reduceMod, Nat.reduceDiv, Int.reduceLE, Int.reduceLT, Int.reduceToNat, Int.reduceAdd, Int.reduceSub, Int.reduceMul, Int.reduceEq, Int.reduceNeg, BitVec.reduceOfInt, BitVec.reduceToNat, BitVec.reduceEq, BitVec.reduceNe, BitVec.reduceLT, reduceCtorEq, List.forall_mem_nil, o1.1, hl0, hl1, hm.1, hm16, splice_all, List.take_of_length_le]
        refine Weak.drop ?_ rfl (fun _ _ h => h)
        simp [St.get, lookS]
      · have hc' : ¬ ((s.getD i 0).toNat : Int) = 49 := fun e => hc (BitVec.eq_of_toNat_eq (by rw [show (49#8).toNat = 49 from rfl]; omega))
        rw [if_neg hc] at hst
        simp only [hc', if_false, ← hst]
        refine Weak.drop ?_ rfl (fun _ _ h => h)
        simp [St.get, lookS]
    · simp only [go_sem, ↓reduceIte, Nat.reduceEqDiff, Nat.reduceLT, Nat.reduceLeDiff, Nat.reduceAdd, Nat.reduceSub, Nat.reduceMul, Nat.reduceMod, Nat.reduceDiv, Int.reduceLE, Int.reduceLT, Int.reduceToNat, Int.reduceAdd, Int.reduceSub, Int.reduceMul, Int.reduceEq, Int.reduceNeg, BitVec.reduceOfInt, BitVec.reduceToNat, BitVec.reduceEq, BitVec.reduceNe, BitVec.reduceLT, reduceCtorEq, List.forall_mem_nil, h0]
      obtain rfl : i = s.length := by omega
      refine Weak.drop ?_ rfl (fun _ _ h => h)
      simp [St.get, lookS]
  · simp only [go_sem, ↓reduceIte, Nat.reduceEqDiff, Nat.reduceLT, Nat.reduceLeDiff, Nat.reduceAdd, Nat.reduceSub, Nat.reduceMul, Nat.reduceMod, Nat.reduceDiv, Int.reduceLE, Int.reduceLT, Int.reduceToNat, Int.reduceAdd, Int.reduceSub, Int.reduceMul, Int.reduceEq, Int.reduceNeg, BitVec.reduceOfInt, BitVec.reduceToNat, BitVec.reduceEq, BitVec.reduceNe, BitVec.reduceLT, reduceCtorEq, List.forall_mem_nil, hal, hm16, splice_all, List.take_of_length_le]
    exact Fin.pure (by simp [lows_i64, lows, V.low])
end Go.Vm
end
