/- A part of the proof: laws of a small machine of values, or what one function answers, proved against the model; no conditions beyond those in each theorem. -/
import Derived.MapKept
import Derived.ChangeMaps4
import Derived.Test.YtamiehjmabphmaaVmJ
set_option linter.unusedVariables false
set_option linter.unusedSimpArgs false
set_option linter.unusedSectionVars false
section
namespace Go.Vm
open Go.ChangeMaps (setBlock)
theorem mapT_some {P : Program} {t : TypeId} (h : mapT P t = true) : ∃ k e, P.underlying t = some (.map k e) ∧ P.underlying k = some (.int .u32) ∧ ∀ w : World, (zeroValue e).run P w = .ok (.int .i64 0) w := by
  unfold mapT at h
  split at h
  case h_2 => cases h
  rename_i k e hu
  rw [Bool.and_eq_true] at h
  obtain ⟨h1, h2⟩ := h
  split at h1
  case h_2 => cases h1
  rename_i hk
  split at h2
  case h_2 => cases h2
  rename_i hz
  refine ⟨k, e, hu, hk, fun w => ?_⟩
  cases hi : P.info? e with
  | none => rw [hi] at hz; cases hz
  | some i =>
    rw [hi] at hz
    have hz : i.zero = some (.int .i64 0) := hz
    simp [zeroValue, typeInfo, hi, hz]
/-- Where a key's entry is. -/
def entIx (k : BitVec 32) : List (Nat × BitVec 32 × Int) → Nat
  | [] => 0
  | e :: l => if e.2.1 = k then 0 else entIx k l + 1
theorem findNow_ent (k : BitVec 32) : ∀ (l : List (Nat × BitVec 32 × Int)) (i : Nat), Instr.findNow (.int .u32) (.int .u32 (k.toNat : Int)) (l.map entOf) i = some ((entAt k l).map fun n => (i + entIx k l, .int .i64 n))
  | [], i => rfl
  | e :: l, i => by
    rw [List.map_cons]
    unfold Instr.findNow
    have hs : Instr.sameNow (.int .u32) (.int .u32 (k.toNat : Int)) (entOf e).key = some (decide (e.2.1 = k)) := by
      unfold entOf Instr.sameNow
      simp only [if_true]
      congr 1
      rw [Bool.eq_iff_iff, beq_iff_eq, decide_eq_true_iff]
      constructor
      · intro h; exact (BitVec.eq_of_toNat_eq (by omega)).symm
      · intro h; rw [h]
    rw [hs]
    unfold entAt entIx
    by_cases h : e.2.1 = k
    · rw [decide_eq_true h, if_pos h, if_pos h]; rfl
    · rw [decide_eq_false h, if_neg h, if_neg h]
      show Instr.findNow _ _ _ _ = _
      rw [findNow_ent k l (i + 1), show i + (entIx k l + 1) = i + 1 + entIx k l by omega]
theorem entIx_get {k : BitVec 32} : ∀ {l : List (Nat × BitVec 32 × Int)} {n : Int}, entAt k l = some n → ∃ b, l[entIx k l]? = some (b, k, n)
  | [], _, h => by cases h
  | (b, k', m) :: l, n, h => by
    unfold entAt at h
    unfold entIx
    by_cases e : k' = k
    · rw [if_pos e] at h; rw [if_pos e]
      injection h with h
      subst e; subst h
      exact ⟨b, rfl⟩
    · rw [if_neg e] at h; rw [if_neg e]
      exact entIx_get (l := l) h
theorem entPut_modify (k : BitVec 32) (n : Int) : ∀ (l : List (Nat × BitVec 32 × Int)), (entPut k n l).map entOf = (l.map entOf).modify (entIx k l) fun e => { e with key := .int .u32 (k.toNat : Int), val := .int .i64 n }
  | [] => rfl
  | e :: l => by
    unfold entPut entIx
    by_cases h : e.2.1 = k
    · rw [if_pos h, if_pos h]; rfl
    · rw [if_neg h, if_neg h, List.map_cons, List.map_cons, List.modify_succ_cons, entPut_modify k n l]
theorem entDel_erase (k : BitVec 32) : ∀ (l : List (Nat × BitVec 32 × Int)), entDel k l = l.eraseIdx (entIx k l)
  | [] => rfl
  | e :: l => by
    unfold entDel entIx
    by_cases h : e.2.1 = k
    · rw [if_pos h, if_pos h]; rfl
    · rw [if_neg h, if_neg h, List.eraseIdx_cons_succ, entDel_erase k l]
section
variable {P : Program} {w : World} {t k e : TypeId} {r : Nat} {m : MapC}
theorem run_setObj_map {o' : Obj} (hr : w.heap[r]? = some m.obj) : (setObj r o').run P w = .ok () (setBlock w r o') := by
  unfold MapC.obj at hr
  simp [setObj, Sem.run, hr, setBlock]
theorem checkKey_run (b : Bool) (n : Nat) (x : Int) (hk : P.underlying k = some (.int .u32)) : (Instr.checkKey b (n + 1) k (.int .u32 x)).run P w = .ok () w := by
  simp [Instr.checkKey, run_underlying hk]
theorem findKey_run (hk : P.underlying k = some (.int .u32)) (x : BitVec 32) : (Instr.findKey k (.int .u32 (x.toNat : Int)) (m.es.map entOf).toArray.toList).run P w = .ok ((entAt x m.es).map fun n => (entIx x m.es, .int .i64 n)) w := by
  have := findNow_ent x m.es 0
  rw [show (fun n => (0 + entIx x m.es, Value.int .i64 n)) = fun n => (entIx x m.es, .int .i64 n) from by simp only [Nat.zero_add]] at this
  unfold Instr.findKey
  simp only [Sem.run_bind, run_underlying hk, Result.andThen_ok, this, Sem.run_pure]
theorem lookup_run (ht : P.underlying t = some (.map k e)) (hk : P.underlying k = some (.int .u32)) (hz : ∀ w : World, (zeroValue e).run P w = .ok (.int .i64 0) w) (hb : w.heap[r]? = some m.obj) (x : BitVec 32) (ok : Bool) :
    (Instr.lookup t (.map (some r)) (.int .u32 (x.toNat : Int)) ok).run P w = .ok (if ok then .tuple #[.int .i64 ((entAt x m.es).getD 0), .bool (entAt x m.es).isSome] else .int .i64 ((entAt x m.es).getD 0)) w := by
  unfold MapC.obj at hb
  unfold Instr.lookup
  simp only [Sem.run_bind, run_underlying ht, Result.andThen_ok, MapKept.run_getObj_map hb, Sem.run_pure, checkKey_run _ 9999 _ hk, findKey_run hk]
  cases entAt x m.es with
  | none =>
    simp only [Option.map_none, Sem.run_bind, hz, Result.andThen_ok, Sem.run_pure, Option.getD_none, Option.isSome_none]
  | some n =>
    simp only [Option.map_some, Sem.run_bind, Result.andThen_ok, Sem.run_pure, Option.getD_some, Option.isSome_some]
theorem sameBits_u32 (n : Nat) (x : Int) : Instr.sameBits n (.int .u32 x) (.int .u32 x) = true := by
  unfold Instr.sameBits
  simp
theorem mapUpdate_run (ht : P.underlying t = some (.map k e)) (hk : P.underlying k = some (.int .u32)) (hb : w.heap[r]? = some m.obj) (x : BitVec 32) (n : Int) :
    (Instr.mapUpdate t (.map (some r)) (.int .u32 (x.toNat : Int)) (.int .i64 n)).run P w = .ok () (setBlock w r (m.set x n).obj) := by
  have hb0 := hb
  unfold MapC.obj at hb
  unfold Instr.mapUpdate
  simp only [Sem.run_bind, run_underlying ht, Result.andThen_ok, MapKept.run_getObj_map hb, checkKey_run _ 9999 _ hk, findKey_run hk]
  cases h : entAt x m.es with
  | none =>
    simp only [Option.map_none, run_setObj_map hb0]
    unfold MapC.set MapC.obj
    rw [h]
    simp only [Option.isSome_none, Bool.false_eq_true, if_false]
    congr 3
    simp [entOf]
  | some n0 =>
    obtain ⟨b, hg⟩ := entIx_get h
    have hkey : (((m.es.map entOf).toArray[entIx x m.es]?.map (·.key)).getD (.int .u32 (x.toNat : Int))) = .int .u32 (x.toNat : Int) := by
      simp only [List.getElem?_toArray, List.getElem?_map, hg, Option.map_some, Option.getD_some]
      rfl
    simp only [Option.map_some, hkey, Instr.keyThatStays, sameBits_u32, if_true, Sem.run_bind, Sem.run_pure, Result.andThen_ok, run_setObj_map hb0]
    unfold MapC.set MapC.obj
    rw [h]
    simp only [Option.isSome_some, if_true]
    congr 3
    rw [entPut_modify]
    simp
theorem delete_run {u ty : TypeId} (ht : P.underlying t = some (.map k e)) (hk : P.underlying k = some (.int .u32)) (hb : w.heap[r]? = some m.obj) (x : BitVec 32) :
    (Builtin.delete_ #[t, u] ty #[.map (some r), .int .u32 (x.toNat : Int)]).run P w = .ok (.tuple #[]) (setBlock w r (m.del x).obj) := by
  have hb0 := hb
  unfold MapC.obj at hb
  unfold Builtin.delete_
  simp only [List.getElem?_toArray, List.getElem?_cons_zero, List.getElem?_cons_succ, Sem.run_bind, run_underlying ht, Result.andThen_ok, MapKept.run_getObj_map hb, checkKey_run _ 9999 _ hk, findKey_run hk]
  cases h : entAt x m.es with
  | none =>
    simp only [Option.map_none, run_setObj_map hb0, Sem.run_bind, Result.andThen_ok, Sem.run_pure]
    unfold MapC.del MapC.obj
    have : entDel x m.es = m.es := by
      generalize m.es = l at h
      induction l with
      | nil => rfl
      | cons e l ih =>
        unfold entAt at h
        unfold entDel
        split at h
        · cases h
        · rename_i hne
          rw [if_neg hne, ih h]
    rw [this]
  | some n0 =>
    obtain ⟨b, hg⟩ := entIx_get h
    have hlt := (List.getElem?_eq_some_iff.1 hg).1
    simp only [Option.map_some, run_setObj_map hb0, Sem.run_bind, Result.andThen_ok, Sem.run_pure]
    unfold MapC.del MapC.obj
    congr 3
    rw [entDel_erase]
    simp [Array.eraseIdxIfInBounds, hlt]
    rw [ChangeMaps.map_eraseIdx]
theorem lenMap_run {ty : TypeId} (ht : P.underlying t = some (.map k e)) (hb : w.heap[r]? = some m.obj) : (Builtin.len_ #[t] ty #[.map (some r)]).run P w = .ok (.int .i64 m.es.length) w := by
  unfold MapC.obj at hb
  simp [Builtin.len_, run_underlying ht, MapKept.run_getObj_map hb]
  rfl
end
section
variable {ρ : Nat → Nat × Nat} {dom : Nat → Prop} {P : Program} {w : World} {get : Nat → Option Blk} {nid : Nat} {m : MapC}
theorem setBlock_heap (w : World) (r : Nat) (o : Obj) (j : Nat) : (setBlock w r o).heap[j]? = if j = r then (if r < w.heap.size then some o else none) else w.heap[j]? := by
  show (w.heap.setIfInBounds r o)[j]? = _
  rw [Array.getElem?_setIfInBounds]
  by_cases h : j = r
  · subst h; rw [if_pos rfl]
  · rw [if_neg h, if_neg (fun e => h e.symm)]
theorem setBlock_other (w : World) {r j : Nat} (o : Obj) (h : j ≠ r) : (setBlock w r o).heap[j]? = w.heap[j]? := by rw [setBlock_heap, if_neg h]
theorem setBlock_size (w : World) (r : Nat) (o : Obj) : (setBlock w r o).heap.size = w.heap.size := Array.size_setIfInBounds ..
/-- An object that has no cells. -/
def Obj.bare : Obj → Bool
  | .cells _ _ _ => false
  | _ => true
theorem bare_cell {r : Nat} {o : Obj} (h : w.heap[r]? = some o) (ho : Obj.bare o = true) (i : Nat) : w.cell? ⟨r, i, none⟩ = none := by
  unfold World.cell?
  rw [show (⟨r, i, none⟩ : Addr).block = r from rfl, h]
  cases o <;> first | rfl | cases ho
theorem lasts_setBlock {r : Nat} {o o' : Obj} (h : w.heap[r]? = some o) (ho : Obj.bare o = true) : Lasts w (setBlock w r o') := fun p i hp => by
  have hne : p ≠ r := fun e => by rw [e, bare_cell h ho] at hp; cases hp
  refine ⟨?_, fun hf => ?_⟩
  · rw [World.cell?_of_block (w := w) (setBlock_other w o' hne)]; exact hp
  · rw [World.frozen?_of_block (w := w) (setBlock_other w o' hne)]; exact hf
theorem map_block (h : MemRel ρ dom get w) {b : Nat} (hb : get b = some ⟨false, [], some m⟩) (m' : MapC) :
    MemRel ρ (domWith dom nid 0) (upd get [(b, some ⟨false, [], some m'⟩)] nid []) (setBlock w (ρ b).1 m'.obj) ∧
    Frame ρ get w ρ (upd get [(b, some ⟨false, [], some m'⟩)] nid []) (setBlock w (ρ b).1 m'.obj) := by
  have hm := h.mapc b _ m hb rfl
  have hl : Lasts w (setBlock w (ρ b).1 m'.obj) := lasts_setBlock hm rfl
  have hdm : ∀ b, dom b → domWith dom nid 0 b := fun b hb => .inl hb
  rw [upd_one]
  have hget : ∀ b' B, b' ≠ b → (fun b' => if b' = b then some (⟨false, [], some m'⟩ : Blk) else get b') b' = some B → get b' = some B := fun b' B hne hB => by simpa [hne] using hB
  have hgb : ∀ B, (fun b' => if b' = b then some (⟨false, [], some m'⟩ : Blk) else get b') b = some B → B = ⟨false, [], some m'⟩ := fun B hB => by simpa using hB.symm
  have hsame : ∀ b' B, (fun b' => if b' = b then some (⟨false, [], some m'⟩ : Blk) else get b') b' = some B → ∃ B0, get b' = some B0 ∧ B0.ro = B.ro := fun b' B hB => by
    by_cases e : b' = b
    · subst e
      rw [hgb B hB]
      exact ⟨_, hb, rfl⟩
    · exact ⟨B, hget b' B e hB, rfl⟩
  have hneq : ∀ b' B, b' ≠ b → get b' = some B → (ρ b').1 ≠ (ρ b).1 := fun b' B h1 h2 e => h.inj b b' _ B hb h2 rfl (fun x => h1 x.symm) e.symm
  refine ⟨⟨fun b' B hB => ?_, fun b' B hB => ?_, fun b1 b2 B1 B2 h1 h2 hr hne => ?_, fun b' B hB i v hv => ?_, fun b' B hB hr i hi => ?_, fun b' B m2 hB hmp => ?_⟩,
    ⟨rfl, rfl, rfl, by rw [setBlock_size]; exact Nat.le_refl _, fun r hr hbr => ?_, hl, fun b' B hB hr => ?_⟩⟩
  · obtain ⟨B0, h1, _⟩ := hsame b' B hB
    exact .inl (h.has b' B0 h1)
  · obtain ⟨B0, h1, _⟩ := hsame b' B hB
    rw [setBlock_size]; exact h.lt b' B0 h1
  · obtain ⟨B3, h3, h4⟩ := hsame b1 B1 h1
    obtain ⟨B5, h5, _⟩ := hsame b2 B2 h2
    exact h.inj b1 b2 B3 B5 h3 h5 (h4.trans hr) hne
  · by_cases e : b' = b
    · subst e
      rw [hgb B hB] at hv
      simp at hv
    · have h0 := hget b' B e hB
      obtain ⟨r, h1, h2⟩ := h.cell b' B h0 i v hv
      refine ⟨r, ?_, h2.mono (fun _ _ => rfl) hdm hl⟩
      rw [World.cell?_of_block (w := w) (setBlock_other w m'.obj (hneq b' B e h0))]
      exact h1
  · by_cases e : b' = b
    · subst e
      rw [hgb B hB] at hi
      simp at hi
    · have h0 := hget b' B e hB
      rw [World.frozen?_of_block (w := w) (setBlock_other w m'.obj (hneq b' B e h0))]
      exact h.free b' B h0 hr i hi
  · by_cases e : b' = b
    · subst e
      rw [hgb B hB] at hmp
      injection hmp with hmp
      subst hmp
      rw [setBlock_heap, if_pos rfl, if_pos (h.lt b' _ hb)]
    · have h0 := hget b' B e hB
      rw [setBlock_other w m'.obj (hneq b' B e h0)]
      exact h.mapc b' B m2 h0 hmp
  · exact setBlock_other w m'.obj (fun e => hbr b _ hb rfl e.symm)
  · obtain ⟨B0, h1, h2⟩ := hsame b' B hB
    exact .inl ⟨b', B0, h1, h2.trans hr, rfl⟩
/-- A new map. -/
theorem new_map (h : MemRel ρ dom get w) (hn : ¬ dom nid) (m' : MapC) :
    MemRel (extend ρ nid (w.heap.size, 0)) (domWith dom nid 1) (upd get [] nid [some ⟨false, [], some m'⟩]) (w.alloc m'.obj) ∧
    Frame ρ get w (extend ρ nid (w.heap.size, 0)) (upd get [] nid [some ⟨false, [], some m'⟩]) (w.alloc m'.obj) := by
  have hold := extend_old (ρ := ρ) (x := (w.heap.size, 0)) hn
  have hl := lasts_alloc w m'.obj
  have hdm : ∀ b, dom b → domWith dom nid 1 b := fun b hb => .inl hb
  rw [upd_new]
  have hget : ∀ b B, b ≠ nid → (fun b => if b = nid then some (⟨false, [], some m'⟩ : Blk) else get b) b = some B → get b = some B := fun b B hb hB => by simpa [hb] using hB
  have hgn : ∀ B, (fun b => if b = nid then some (⟨false, [], some m'⟩ : Blk) else get b) nid = some B → B = ⟨false, [], some m'⟩ := fun B hB => by simpa using hB.symm
  have hrho : ∀ b B, b ≠ nid → get b = some B → extend ρ nid (w.heap.size, 0) b = ρ b := fun b B hb hB => hold b (h.has b B hB)
  have hheap : ∀ j, j < w.heap.size → (w.alloc m'.obj).heap[j]? = w.heap[j]? := fun j hj => by
    show (w.heap.push _)[j]? = _
    rw [Array.getElem?_push, if_neg (by omega)]
  refine ⟨⟨fun b B hB => ?_, fun b B hB => ?_, fun b b' B B' hB hB' hr hne => ?_, fun b B hB i v hv => ?_, fun b B hB hr i hi => ?_, fun b B m2 hB hmp => ?_⟩,
    ⟨rfl, rfl, rfl, by simp, fun r hr _ => hheap r hr, hl, fun b B hB hr => ?_⟩⟩
  · by_cases hb : b = nid
    · exact .inr ⟨by omega, by omega⟩
    · exact .inl (h.has b B (hget b B hb hB))
  · by_cases hb : b = nid
    · subst hb; rw [extend_new]; simp
    · have := h.lt b B (hget b B hb hB)
      rw [hrho b B hb (hget b B hb hB)]
      simp; omega
  · by_cases hb : b = nid
    · subst hb
      have hb' : b' ≠ b := fun e => hne e.symm
      have := h.lt b' B' (hget b' B' hb' hB')
      rw [extend_new, hrho b' B' hb' (hget b' B' hb' hB')]
      simp only; omega
    · have h1 := hget b B hb hB
      rw [hrho b B hb h1]
      by_cases hb' : b' = nid
      · subst hb'
        rw [extend_new]
        have := h.lt b B h1
        simp only; omega
      · have h2 := hget b' B' hb' hB'
        rw [hrho b' B' hb' h2]
        exact h.inj b b' B B' h1 h2 hr hne
  · by_cases hb : b = nid
    · subst hb
      rw [hgn B hB] at hv
      simp at hv
    · have h1 := hget b B hb hB
      obtain ⟨r, h2, h3⟩ := h.cell b B h1 i v hv
      refine ⟨r, ?_, h3.mono hold hdm hl⟩
      rw [hrho b B hb h1, World.cell?_of_block (w := w) (hheap _ (h.lt b B h1))]
      exact h2
  · by_cases hb : b = nid
    · subst hb
      rw [hgn B hB] at hi
      simp at hi
    · have h1 := hget b B hb hB
      rw [hrho b B hb h1, World.frozen?_of_block (w := w) (hheap _ (h.lt b B h1))]
      exact h.free b B h1 hr i hi
  · by_cases hb : b = nid
    · subst hb
      rw [hgn B hB] at hmp
      injection hmp with hmp
      subst hmp
      rw [extend_new]
      show (w.heap.push _)[w.heap.size]? = _
      simp
    · have h1 := hget b B hb hB
      rw [hrho b B hb h1, hheap _ (h.lt b B h1)]
      exact h.mapc b B m2 h1 hmp
  · by_cases hb : b = nid
    · subst hb; right; rw [extend_new]; exact Nat.le_refl _
    · have h1 := hget b B hb hB
      exact .inl ⟨b, B, h1, hr, (by rw [hrho b B hb h1])⟩
end
end Go.Vm
end
section
namespace Go.Vm
section
variable {ρ : Nat → Nat × Nat} {dom : Nat → Prop} {P : Program} {w : World} {get get0 : Nat → Option Blk} {nid : Nat}

theorem vsrc_local {y : V} {n : Nat} {ys : List V} {q : Prop} {g : List Nat} (h : vsrc get0 y = some (n, ys, q, g)) (hg : ∀ b ∈ g, get b = get0 b) : vsrc get y = some (n, ys, q, g) := by
  unfold vsrc at *
  split at h
  · exact h
  · exact h
  · split at h
    case h_2 => cases h
    rename_i B hB
    have h' := h
    injection h' with h'
    simp only [Prod.mk.injEq] at h'
    obtain ⟨_, _, _, rfl⟩ := h'
    rw [hg _ (by simp), hB]
    exact h
  · cases h

/-- What the operands read as. -/
def Reads (ρ : Nat → Nat × Nat) (dom : Nat → Prop) (w : World) (a : Act) (ev : Operand → V) (o : Op) : Prop := ∀ x ∈ o.operands.toList, VR ρ dom w (ev x) (a.eval x)

theorem opt_reads {a : Act} {ev : Operand → V} {x : Option Operand} (h : ∀ y ∈ x.toArray.toList, VR ρ dom w (ev y) (a.eval y)) : OVR ρ dom w (x.map ev) (x.map a.eval) := by
  cases x with
  | none => exact .inl ⟨rfl, rfl⟩
  | some y => exact .inr ⟨_, _, rfl, rfl, h y (by simp)⟩
theorem list_reads {a : Act} {ev : Operand → V} : ∀ {l : List Operand}, (∀ y ∈ l, VR ρ dom w (ev y) (a.eval y)) → VRs ρ dom w (l.map ev) (l.map a.eval)
  | [], _ => VRs.nil
  | x :: l, h => VRs.cons (h x (by simp)) (list_reads fun y hy => h y (by simp [hy]))

theorem RunsTo.val {s : Sem Value} {res : Res} (hm : MemRel ρ dom get w) (h : ∃ r, s.run P w = .ok r w ∧ VR ρ dom w res.v r) (ho : res.old = []) (hn : res.news = []) : RunsTo P (do pure (.value (← s)) : Sem Next) w ρ dom get nid res := by
  obtain ⟨r, h1, h2⟩ := h
  exact RunsTo.same hm (by rw [Sem.run_bind, h1]; rfl) h2 ho hn
theorem RunsTo.weaken {res res' : Res} {s : Sem Next} (h : RunsTo P s w ρ dom get nid res) (e1 : res.v = res'.v) (e2 : res.old = res'.old) (e3 : res.news = res'.news) : RunsTo P s w ρ dom get nid res' := by
  obtain ⟨ρ', w', r, g1, g2, g3, g4, g5⟩ := h
  exact ⟨ρ', w', r, g1, g2, by rw [← e2, ← e3]; exact g3, by rw [← e1, ← e3]; exact g4, by rw [← e2, ← e3]; exact g5⟩

theorem vbin_pure {op : BinOp} {t : TypeId} {x y : V} {res : Res} (h : vbin P op t x y = some res) : res.old = [] ∧ res.news = [] := by
  have hu : ∀ {n : Nat} (mk : BitVec n → V) (op : BinOp) (x y : BitVec n) (res : Res), vuns mk op x y = some res → res.old = [] ∧ res.news = [] := fun mk op x y res h => by
    cases op <;> simp only [vuns, Option.some.injEq, reduceCtorEq] at h <;> subst h <;> exact ⟨rfl, rfl⟩
  have hi : ∀ (op : BinOp) (x y : Int) (res : Res), vint64 op x y = some res → res.old = [] ∧ res.news = [] := fun op x y res h => by
    cases op <;> simp only [vint64, vint, Option.some.injEq, reduceCtorEq] at h <;> subst h <;> exact ⟨rfl, rfl⟩
  have hst : ∀ (op : BinOp) (x y : List Byte) (res : Res), vstr op x y = some res → res.old = [] ∧ res.news = [] := fun op x y res h => by
    cases op <;> simp only [vstr, Option.some.injEq, reduceCtorEq] at h <;> subst h <;> exact ⟨rfl, rfl⟩
  have hsh : ∀ (op : BinOp) (x : V) (n : Nat) (p : Prop) (res : Res), vshift op x n p = some res → res.old = [] ∧ res.news = [] := fun op x n p res h => by
    cases op <;> cases x <;> simp only [vshift, Option.some.injEq, reduceCtorEq] at h <;> subst h <;> exact ⟨rfl, rfl⟩
  unfold vbin at h
  repeat' split at h
  all_goals first
    | (exact hu _ _ _ _ _ h)
    | (exact hi _ _ _ _ h)
    | (exact hst _ _ _ _ h)
    | (exact hsh _ _ _ _ _ h)
    | (cases h; done)
    | (simp only [Option.some.injEq, reduceCtorEq] at h; subst h; exact ⟨rfl, rfl⟩)

theorem len_sound {t ty : TypeId} {x : V} {rx : Value} {res : Res} (h : vbuiltin P .len [t] [x] get0 nid = some res) (hm : MemRel ρ dom get w) (hfp : ∀ b ∈ res.fp, get b = get0 b) (hx : VR ρ dom w x rx) :
    (∃ r, (Builtin.len_ #[t] ty #[rx]).run P w = .ok r w ∧ VR ρ dom w res.v r) ∧ res.old = [] ∧ res.news = [] := by
  simp only [vbuiltin] at h
  split at h
  case h_5 =>
    rename_i k e b hu
    split at h
    case h_2 => cases h
    rename_i ro cs m hB
    injection h with h; subst h
    unfold VR at hx
    obtain ⟨_, rfl⟩ := hx
    have hg := hm.mapc b _ m ((hfp b (by simp)).trans hB) rfl
    exact ⟨⟨_, lenMap_run hu hg, by unfold VR; rfl⟩, rfl, rfl⟩
  all_goals simp only [Option.some.injEq, reduceCtorEq] at h
  all_goals subst h
  all_goals rename_i hu
  · unfold VR at hx
    obtain ⟨b, rfl, rfl⟩ := hx
    exact ⟨⟨_, by simp [Builtin.len_, run_underlying hu]; rfl, by unfold VR; rw [bytesOf_length]; rfl⟩, rfl, rfl⟩
  · exact ⟨⟨_, by simp [Builtin.len_, run_underlying hu]; rfl, by unfold VR; rfl⟩, rfl, rfl⟩
  · unfold VR at hx
    obtain ⟨_, a, c, rfl, _⟩ := hx
    exact ⟨⟨_, by simp [Builtin.len_, run_underlying hu]; rfl, by unfold VR; rfl⟩, rfl, rfl⟩
  · unfold VR at hx
    subst hx
    exact ⟨⟨_, by simp [Builtin.len_, run_underlying hu]; rfl, by unfold VR; rfl⟩, rfl, rfl⟩

theorem arr1 {l : Array Operand} {ev : Operand → V} {x : V} (h : l.toList.map ev = [x]) : ∃ o, l = #[o] ∧ x = ev o := by
  obtain ⟨l⟩ := l
  match l, h with
  | [o], h => simp at h; exact ⟨o, rfl, h.symm⟩
theorem arr2 {l : Array Operand} {ev : Operand → V} {x y : V} (h : l.toList.map ev = [x, y]) : ∃ o p, l = #[o, p] ∧ x = ev o ∧ y = ev p := by
  obtain ⟨l⟩ := l
  match l, h with
  | [o, p], h => simp at h; exact ⟨o, p, rfl, h.1.symm, h.2.symm⟩

theorem ats1 {l : Array TypeId} {t : TypeId} (h : l.toList = [t]) : l = #[t] := by
  obtain ⟨l⟩ := l; simp at h; rw [h]
theorem ats2 {l : Array TypeId} {t u : TypeId} (h : l.toList = [t, u]) : l = #[t, u] := by
  obtain ⟨l⟩ := l; simp at h; rw [h]

theorem append_none {t tx ty e : TypeId} {x y : V} {rx ry : Value} {n sz : Nat} {xs ys : List V} {p q : Prop} {f g fp : List Nat} (ht : P.underlying t = some (.slice e)) (hs : szOf P e = some sz)
    (hxs : isStr x = false) (hey : eszOk sz y = true) (hk : srcT P tx y = true) (hsx : vsrc get x = some (n, xs, p, f)) (hsy : vsrc get y = some (0, ys, q, g)) (hq : q)
    (hx : VR ρ dom w x rx) (hy : VR ρ dom w y ry) (hm : MemRel ρ dom get w) : RunsTo P (do pure (.value (← Builtin.append_ #[t, tx] ty #[rx, ry])) : Sem Next) w ρ dom get nid { v := x, pre := q, fp := fp } := by
  have hkk := srcT_kind hk
  have hinf : ∃ i, P.info? e = some i ∧ i.size = sz := by
    unfold szOf at hs
    cases hi : P.info? e with
    | none => rw [hi] at hs; cases hs
    | some i => rw [hi] at hs; injection hs with hs; exact ⟨i, rfl, hs⟩
  obtain ⟨i, hi, hsz⟩ := hinf
  have hys : ys = [] := by
    unfold vsrc at hsy
    split at hsy
    · injection hsy with hsy; simp only [Prod.mk.injEq] at hsy; exact hsy.2.1.symm
    · injection hsy with hsy; simp only [Prod.mk.injEq] at hsy
      obtain ⟨h1, h2, _⟩ := hsy
      rw [← h2, List.length_eq_zero_iff.1 h1]; rfl
    · split at hsy
      · injection hsy with hsy; simp only [Prod.mk.injEq] at hsy
        obtain ⟨h1, h2, _⟩ := hsy
        rw [← h2, h1]; simp
      · cases hsy
    · cases hsy
  subst hys
  obtain ⟨news, hsrc, hnews⟩ := src_sound hsy hq hm hy hey hkk (fun u hu => by cases hu)
  have hn0 : news = [] := by have := hnews.length; exact List.length_eq_zero_iff.1 (by simpa using this)
  subst hn0
  rw [← hsz] at hsrc
  have hsh : ∃ a c, rx = .slice a n c ∧ n ≤ c := by
    unfold vsrc at hsx
    split at hsx
    · injection hsx with hsx; simp only [Prod.mk.injEq] at hsx
      obtain ⟨rfl, _⟩ := hsx
      unfold VR at hx; exact ⟨_, _, hx, Nat.le_refl _⟩
    · simp [isStr] at hxs
    · split at hsx
      case h_2 => cases hsx
      injection hsx with hsx; simp only [Prod.mk.injEq] at hsx
      obtain ⟨rfl, _⟩ := hsx
      unfold VR at hx
      obtain ⟨_, a, c, h1, h2, _⟩ := hx
      exact ⟨_, _, h1, h2⟩
    · cases hsx
  obtain ⟨a, c, rfl, hle⟩ := hsh
  exact RunsTo.same hm (by rw [Sem.run_bind, run_append_nothing w t tx ty e i ht hi a n c hle ry hsrc]; rfl) hx rfl rfl

theorem builtin_sound {b : Builtin} {ats : Array TypeId} {args : Array Operand} {ty : TypeId} {consts : Array Bool} {a : Act} {ev : Operand → V} {res : Res} (h : vbuiltin P b ats.toList (args.toList.map ev) get0 nid = some res) (hp : res.pre)
    (hr : ∀ x ∈ args.toList, VR ρ dom w (ev x) (a.eval x)) (hm : MemRel ρ dom get w) (hfp : ∀ b ∈ res.fp, get b = get0 b) (hd : ∀ b, nid ≤ b → b < nid + res.news.length → ¬ dom b) :
    RunsTo P (builtin b ats ty consts (args.map a.eval)) w ρ dom get nid res := by
  have h0 := h
  have em1 : ∀ o, (#[o] : Array Operand).map a.eval = #[a.eval o] := fun o => by simp
  have em2 : ∀ o p, (#[o, p] : Array Operand).map a.eval = #[a.eval o, a.eval p] := fun o p => by simp
  unfold vbuiltin at h
  split at h
  · rename_i t x ht hx
    obtain ⟨o, rfl, rfl⟩ := arr1 hx
    rw [hx, ht] at h0
    rw [ats1 ht, em1]
    obtain ⟨g1, g2, g3⟩ := len_sound (ty := ty) h0 hm hfp (hr o (by simp))
    exact RunsTo.val hm g1 g2 g3
  · rename_i t u x y ht hx
    obtain ⟨o, p, rfl, e1, e2⟩ := arr2 hx
    split at h
    case h_2 => cases h
    rename_i b k hmt
    split at h
    case h_2 => cases h
    rename_i m hB
    injection h with h; subst h
    have v1 := hr o (by simp)
    have v2 := hr p (by simp)
    rw [← e1] at v1; rw [← e2] at v2
    unfold VR at v1 v2
    obtain ⟨kt, et, hu, hk, hz⟩ := mapT_some hmt
    have hB := (hfp b (by simp)).trans hB
    have hg := hm.mapc b _ m hB rfl
    obtain ⟨g1, g2⟩ := map_block (nid := nid) hm hB (m.del k)
    refine ⟨ρ, _, .tuple #[], .inl ?_, fun _ _ => rfl, g1, by unfold VR; exact ⟨_, rfl, VRs.nil⟩, g2⟩
    rw [ats2 ht, em2, v1.2, v2]
    show (do pure (.value (← Builtin.delete_ #[t, u] ty #[.map (some (ρ b).1), .int .u32 (k.toNat : Int)])) : Sem Next).run P w = _
    rw [Sem.run_bind, delete_run hu hk hg]
    rfl
  · rename_i x y hx
    obtain ⟨o, p, rfl, e1, e2⟩ := arr2 hx
    injection h with h; subst h
    have v1 := hr o (by simp)
    have v2 := hr p (by simp)
    rw [← e1] at v1; rw [← e2] at v2
    unfold VR at v1 v2
    refine RunsTo.val hm ⟨.int .i64 (if y < x then y else x), ?_, by unfold VR; rfl⟩ rfl rfl
    simp [Builtin.min_, Builtin.min2, v1, v2]
  · rename_i x y hx
    obtain ⟨o, p, rfl, e1, e2⟩ := arr2 hx
    injection h with h; subst h
    have v1 := hr o (by simp)
    have v2 := hr p (by simp)
    rw [← e1] at v1; rw [← e2] at v2
    unfold VR at v1 v2
    refine RunsTo.val hm ⟨.int .i64 (if y > x then y else x), ?_, by unfold VR; rfl⟩ rfl rfl
    simp [Builtin.max_, Builtin.max2, v1, v2]
  · rename_i t tx x y ht hx
    obtain ⟨o, p, rfl, rfl, rfl⟩ := arr2 hx
    rw [ats2 ht, em2]
    split at h
    case h_2 => cases h
    rename_i e n xs pp f m ys q g he hsx hsy
    split at h
    case h_2 => cases h
    rename_i sz by_ z hs hb hz
    split at h
    case isFalse => cases h
    rename_i hc
    obtain ⟨c1, c2, c3, c4, c5, c6⟩ := hc
    injection h with h; subst h
    have hfpe : (vappend n m sz by_ (ev o) xs ys pp q f g get0 nid).fp = f ++ g := by unfold vappend; split <;> rfl
    rw [hfpe] at hfp
    have hsx' := vsrc_local hsx fun b hb => hfp b (by simp [hb])
    have hsy' := vsrc_local hsy fun b hb => hfp b (by simp [hb])
    by_cases hm0 : m = 0
    · subst hm0
      have hv0 : vappend n 0 sz by_ (ev o) xs ys pp q f g get0 nid = { v := ev o, pre := q, fp := f ++ g } := by unfold vappend; rw [if_pos rfl]
      rw [hv0] at hp ⊢
      exact append_none (ty := ty) (sliceT_some he) hs c3 c5 c6 hsx' hsy' hp (hr o (by simp)) (hr p (by simp)) hm
    · have hpre : (vappend n m sz by_ (ev o) xs ys pp q f g get nid).pre := by
        unfold vappend at hp ⊢
        rw [if_neg hm0] at hp ⊢
        obtain ⟨a1, a2, a3, a4, a5, a6, a7⟩ := hp
        exact ⟨a1, a2, a3, a4, a5, a6, fun b hb => by rw [hfp b (by simp [hb])]; exact a7 b hb⟩
      have hnw : (vappend n m sz by_ (ev o) xs ys pp q f g get0 nid).news.length = 1 := by unfold vappend; rw [if_neg hm0]; rfl
      refine (append_sound (ty := ty) (nid := nid) (sliceT_some he) hs hb hz c1 c2 c3 c4 c5 c6 hsx' hsy' hpre (hr o (by simp)) (hr p (by simp)) hm (hd nid (Nat.le_refl _) (by omega))).weaken ?_ ?_ ?_ <;> (unfold vappend; rw [if_neg hm0, if_neg hm0])
  · rename_i t tx x y ht hx
    obtain ⟨o, p, rfl, e1, rfl⟩ := arr2 hx
    rw [ats2 ht, em2]
    split at h
    case h_2 => cases h
    rename_i e b p' len esz m ys q g he hsy
    split at h
    case h_2 => cases h
    rename_i sz cs hs hb
    split at h
    case isFalse => cases h
    rename_i hc
    obtain ⟨rfl, rfl, c3⟩ := hc
    injection h with h; subst h
    obtain ⟨a1, a2, a3, a4⟩ := hp
    have hb' : get b = some ⟨false, cs, none⟩ := by rw [hfp b (by simp)]; exact hb
    have hsy' := vsrc_local hsy fun b hb => hfp b (by simp [hb])
    have v1 := hr o (by simp)
    rw [← e1] at v1
    exact (copy_sound (ty := ty) (nid := nid) (sliceT_some he) hs hb' c3 hsy' a1 a2 a3 a4 v1 (hr p (by simp)) hm).weaken rfl rfl rfl
  · cases h
end
end Go.Vm
end
section
namespace Go.Vm
section
variable {ρ : Nat → Nat × Nat} {dom : Nat → Prop} {P : Program} {w : World} {get get0 : Nat → Option Blk} {nid : Nat}

theorem parts_reads {a : Act} {ev : Operand → V} {parts : Array (Nat × Operand)} (h : ∀ x ∈ parts.toList.map (·.2), VR ρ dom w (ev x) (a.eval x)) :
    (parts.map fun (i, x) => (i, a.eval x)).size = (parts.toList.map fun x => (x.1, ev x.2)).length ∧
    ∀ (i : Nat) x y, (parts.toList.map fun x => (x.1, ev x.2))[i]? = some x → (parts.map fun (i, x) => (i, a.eval x)).toList[i]? = some y → x.1 = y.1 ∧ VR ρ dom w x.2 y.2 := by
  refine ⟨by simp, fun i x y hx hy => ?_⟩
  simp only [Array.toList_map, List.getElem?_map] at hx hy
  cases hp : parts.toList[i]? with
  | none => rw [hp] at hx; cases hx
  | some p =>
    rw [hp] at hx hy
    simp only [Option.map_some, Option.some.injEq] at hx hy
    subst hx; subst hy
    exact ⟨rfl, h p.2 (List.mem_map.2 ⟨p, List.mem_of_getElem? hp, rfl⟩)⟩

theorem nilAhead_run {t : TypeId} {nm : String} (h : (methOf P t nm).isSome = true) (k : Nat) (v : Value) (w : World) : (nilAhead (k + 1) t v nm).run P w = .ok (some false) w := by
  obtain ⟨f, h⟩ := Option.isSome_iff_exists.1 h
  unfold methOf at h
  split at h
  case h_2 => cases h
  rename_i i d hi hu
  split at h
  case h_2 => cases h
  rename_i mm hm
  split at h
  case isFalse => cases h
  rename_i hp
  have hpl : mm.path.toList = [] := by
    have := Array.isEmpty_iff.1 hp
    rw [this]
  unfold nilAhead
  have h1 : (typeInfo t).run P w = .ok i w := by simp [typeInfo, hi]
  simp only [Sem.run_bind, h1, Result.andThen_ok, hm, hpl, followBlind, Sem.run_pure]
  split at h
  · rename_i f' hf
    rw [hf]
    simp only [Sem.run_pure]
  · cases h
  · cases h
  · rename_i f' hf hnp
    rw [hf]
    simp only [Sem.run_bind, run_underlying hu, Result.andThen_ok]
    split
    all_goals (first | (rename_i e; exact absurd rfl (hnp _)) | simp only [Sem.run_pure])
  · cases h
theorem nilMeth_run {t : TypeId} {nm : String} (h : (methOf P t nm).isSome = true) (x : Value) (c : Array Value) (w : World) :
    (do if (← nilAhead ((← program).types.size + Made.depth) t x nm) != some false then
          unsupported (.noEntry "op/nilCheck.the method's receiver behind this interface value is a nil pointer, or cannot be seen to be none, and the arguments act or may panic (ledger 612)")
        pure (.value (.func (.method nm) #[.iface t x] c)) : Sem Next).run P w = .ok (.value (.func (.method nm) #[.iface t x] c)) w := by
  have hpr : (program : Sem Program).run P w = .ok P w := by rfl
  have hd : P.types.size + Made.depth = (P.types.size + Made.depth - 1) + 1 := by unfold Made.depth; omega
  simp only [Sem.run_bind, hpr, Result.andThen_ok]
  rw [hd, nilAhead_run h]
  rfl
theorem vop_sound {o : Oper} {a : Act} {ev : Operand → V} {res : Res} (h : vop P o.op ev get0 nid = some res) (hp : res.pre) (hr : Reads ρ dom w a ev o.op) (hm : MemRel ρ dom get w)
    (hfp : ∀ b ∈ res.fp, get b = get0 b) (hd : ∀ b, nid ≤ b → b < nid + res.news.length → ¬ dom b) : RunsTo P (execOp a.eval o) w ρ dom get nid res := by
  obtain ⟨dst, op, type, pos, after, guard⟩ := o
  simp only at h hr
  unfold Reads at hr
  unfold execOp
  cases op <;> simp only [vop, reduceCtorEq] at h <;> simp only [Op.operands] at hr <;> simp only
  case move x =>
    injection h with h; subst h
    exact RunsTo.same hm rfl (hr x (by simp)) rfl rfl
  case assign x =>
    injection h with h; subst h
    exact RunsTo.same hm rfl (hr x (by simp)) rfl rfl
  case pick c x y =>
    split at h
    case h_2 => cases h
    rename_i b hb
    injection h with h; subst h
    have v1 := hr c (by simp)
    rw [hb] at v1
    unfold VR at v1
    refine RunsTo.same (r := if b then a.eval x else a.eval y) hm (by simp [v1, asBool]) ?_ rfl rfl
    cases b
    · exact hr y (by simp)
    · exact hr x (by simp)
  case alloc e =>
    split at h
    case h_2 => cases h
    rename_i z hz
    injection h with h; subst h
    exact (alloc_sound hz hm (hd nid (Nat.le_refl _) (by simp))).weaken rfl rfl rfl
  case box e x =>
    have v1 := hr x (by simp)
    have fin : ev x ≠ .junk → (∀ l, ev x ≠ .tup l) → res = { v := .ptr nid 0, news := [some ⟨false, (ev x).cells, none⟩] } → RunsTo P (do pure (.value (← Instr.box e (a.eval x))) : Sem Next) w ρ dom get nid res := by
      intro h1 h2 h3
      subst h3
      exact box_sound v1 h1 h2 hm (hd nid (Nat.le_refl _) (by simp))
    split at h
    · cases h
    · cases h
    · cases h
    · rename_i hj1 hj3 hj2
      injection h with h
      exact fin (fun e => hj1 e) (fun l e => hj2 l e) h.symm
  case build t parts =>
    obtain ⟨p1, p2⟩ := parts_reads (ρ := ρ) (dom := dom) (w := w) (a := a) (ev := ev) (parts := parts) (by simpa using hr)
    split at h
    · rename_i z pl hb
      simp only [Option.map_eq_some_iff] at h
      obtain ⟨cs, hf, rfl⟩ := h
      exact RunsTo.val hm (buildT_sound hb p1 p2 hf) rfl rfl
    · rename_i z s hb
      simp only [Option.map_eq_some_iff] at h
      obtain ⟨cs, hf, rfl⟩ := h
      exact RunsTo.val hm (buildT_sound hb p1 p2 hf) rfl rfl
    · cases h
  case buildSlice t len parts =>
    obtain ⟨p1, p2⟩ := parts_reads (ρ := ρ) (dom := dom) (w := w) (a := a) (ev := ev) (parts := parts) (by simpa using hr)
    split at h
    case h_2 => cases h
    rename_i e he
    split at h
    case h_2 => cases h
    rename_i s z hs hz
    split at h
    case isFalse => cases h
    rename_i hc
    simp only [Option.map_eq_some_iff] at h
    obtain ⟨cs, hf, rfl⟩ := h
    exact buildSlice_sound (sliceT_some he) hs hz hc.1 hc.2.1 hc.2.2 p1 p2 hf hm (hd nid (Nat.le_refl _) (by simp))
  case load t x =>
    have v1 := hr x (by simp)
    split at h
    case h_2 => cases h
    rename_i b p hb
    rw [hb] at v1
    split at h
    · rename_i B s hB ht hs
      injection h with h; subst h
      have := load_sound hm v1 (by rw [hfp b (by simp)]; exact hB) ht hs
      simp only [if_true] at this
      exact RunsTo.val hm (this hp) rfl rfl
    · rename_i B s hB ht hs
      injection h with h; subst h
      have := load_sound hm v1 (by rw [hfp b (by simp)]; exact hB) ht hs
      simp only [Bool.false_eq_true, if_false] at this
      exact RunsTo.val hm (this hp) rfl rfl
    · cases h
  case store t x y =>
    have v1 := hr x (by simp)
    have v2 := hr y (by simp)
    split at h
    case h_2 => cases h
    rename_i b p hb
    rw [hb] at v1
    split at h
    case h_2 => cases h
    rename_i cs s hB hs
    split at h
    case isFalse => cases h
    rename_i hc
    injection h with h; subst h
    subst hc
    exact (store_sound (o := ⟨dst, .store t x y, type, pos, after, guard⟩) (nid := nid) hm v1 v2 (by rw [hfp b (by simp)]; exact hB) hs hp.1 hp.2).weaken rfl rfl rfl
  case nilCheck x =>
    have v1 := hr x (by simp)
    split at h
    · rename_i b p hb
      injection h with h; subst h
      rw [hb] at v1
      have v2 := v1
      unfold VR at v2
      obtain ⟨_, e⟩ := v2
      exact RunsTo.same hm (by rw [e]; rfl) v1 rfl rfl
    · rename_i f x1 x2 hb
      injection h with h; subst h
      rw [hb] at v1
      have v2 := v1
      unfold VR at v2
      obtain ⟨f', c', e, _⟩ := v2
      exact RunsTo.same hm (by rw [e]; rfl) v1 rfl rfl
    · rename_i nm t hb
      split at h
      case isFalse => cases h
      rename_i hmo
      injection h with h; subst h
      rw [hb] at v1
      have v2 := v1
      unfold VR at v2
      obtain ⟨x', c', e⟩ := v2
      refine RunsTo.same hm ?_ v1 rfl rfl
      rw [e]
      exact nilMeth_run hmo x' c' w
    · rename_i t v hb
      injection h with h; subst h
      rw [hb] at v1
      have v2 := v1
      unfold VR at v2
      obtain ⟨f', e, _⟩ := v2
      exact RunsTo.same hm (by rw [e]; rfl) v1 rfl rfl
    · cases h
  case binOp op t x y ty =>
    obtain ⟨h1, h2⟩ := vbin_pure h
    exact RunsTo.val hm (bin_sound h hp (hr x (by simp)) (hr y (by simp))) h1 h2
  case unOp op t x =>
    have hpure : res.old = [] ∧ res.news = [] := by
      unfold vun at h
      split at h <;> simp only [Option.some.injEq, reduceCtorEq] at h <;> subst h <;> exact ⟨rfl, rfl⟩
    exact RunsTo.val hm (un_sound h (hr x (by simp))) hpure.1 hpure.2
  case convert s d x =>
    have v1 := hr x (by simp)
    unfold vconv at h
    split at h
    · rename_i k1 k2 x' hu1 hu2
      simp only [Option.map_eq_some_iff] at h
      obtain ⟨v, hv, rfl⟩ := h
      obtain ⟨kk, n, e, hv2⟩ := convInt_sound hv v1
      refine RunsTo.val hm ⟨_, ?_, hv2⟩ rfl rfl
      rw [e]
      simp [convert, run_underlying hu1, run_underlying hu2, Conv.intToInt]
    · rename_i b hu1 hu2 hb
      injection h with h; subst h
      rw [hb] at v1
      have v2 := v1
      unfold VR at v2
      obtain ⟨b', e, _⟩ := v2
      refine RunsTo.val hm ⟨_, ?_, v1⟩ rfl rfl
      rw [e]
      simp [convert, run_underlying hu1, run_underlying hu2]
    · rename_i e b hu1 hu2 hb
      split at h
      case h_2 => cases h
      rename_i he
      injection h with h; subst h
      rw [hb] at v1
      exact (strBytes_sound hu1 hu2 he v1 hm (hd nid (Nat.le_refl _) (by simp))).weaken rfl rfl rfl
    · rename_i e hu1 hu2 hb
      split at h
      case h_2 => cases h
      rename_i he
      injection h with h; subst h
      rw [hb] at v1
      unfold VR at v1
      refine RunsTo.val hm ⟨.string .empty, ?_, by unfold VR; exact ⟨_, rfl, rfl⟩⟩ rfl rfl
      rw [v1]
      simp [convert, run_underlying hu1, run_underlying hu2, run_underlying he, Conv.bytesToString]
    · rename_i e b p len hu1 hu2 hb
      split at h
      case h_2 => cases h
      rename_i B he hB
      injection h with h; subst h
      rw [hb] at v1
      exact RunsTo.val hm (bytesStr_sound hu1 he hu2 hm (by rw [hfp b (by simp)]; exact hB) hp.1 hp.2 v1) rfl rfl
    · cases h
  case makeMap t rsv =>
    cases rsv with
    | some _ => simp at h
    | none =>
      simp only at h
      split at h
      case isFalse => cases h
      rename_i ht
      injection h with h; subst h
      have hdn := hd nid (Nat.le_refl _) (by simp)
      obtain ⟨g1, g2⟩ := new_map hm hdn ⟨[], 0⟩
      refine ⟨_, _, .map (some w.heap.size), .inl ?_, extend_old hdn, g1, ?_, g2⟩
      · simp [Instr.makeMap, newObj, Sem.run, MapC.obj]
      · unfold VR
        exact ⟨.inr ⟨by omega, by simp⟩, by rw [extend_new]⟩
  case lookup t x i ok =>
    have v1 := hr x (by simp)
    have v2 := hr i (by simp)
    split at h
    case h_2 => cases h
    rename_i b k hmt hx hi
    split at h
    case h_2 => cases h
    rename_i ro cs m hB
    injection h with h; subst h
    rw [hx] at v1; rw [hi] at v2
    unfold VR at v1 v2
    obtain ⟨kt, et, hu, hk, hz⟩ := mapT_some hmt
    have hg := hm.mapc b _ m ((hfp b (by simp)).trans hB) rfl
    refine RunsTo.val hm ⟨_, by rw [v1.2, v2]; exact lookup_run hu hk hz hg k ok, ?_⟩ rfl rfl
    cases ok
    · show VR _ _ _ (.i64 _) _
      unfold VR; rfl
    · show VR _ _ _ (.tup _) _
      unfold VR
      exact ⟨_, rfl, VRs.cons (by unfold VR; rfl) (VRs.cons (by unfold VR; rfl) VRs.nil)⟩
  case mapUpdate t x i y =>
    have v1 := hr x (by simp)
    have v2 := hr i (by simp)
    have v3 := hr y (by simp)
    split at h
    case h_2 => cases h
    rename_i b k n hmt hx hi hy
    split at h
    case h_2 => cases h
    rename_i m hB
    injection h with h; subst h
    rw [hx] at v1; rw [hi] at v2; rw [hy] at v3
    unfold VR at v1 v2 v3
    obtain ⟨kt, et, hu, hk, hz⟩ := mapT_some hmt
    have hB := (hfp b (by simp)).trans hB
    have hg := hm.mapc b _ m hB rfl
    obtain ⟨g1, g2⟩ := map_block (nid := nid) hm hB (m.set k n)
    refine ⟨ρ, _, undef, .inr ⟨?_, rfl⟩, fun _ _ => rfl, g1, by unfold VR; trivial, g2⟩
    rw [v1.2, v2, v3, Sem.run_bind, mapUpdate_run hu hk hg]
    rfl
  case makeInterface t x =>
    have v1 := hr x (by simp)
    split at h
    case isFalse => cases h
    rename_i ht
    injection h with h; subst h
    unfold noIface at ht
    split at ht
    · cases ht
    · rename_i d hni hu
      refine RunsTo.val hm ⟨.iface t _, ?_, by unfold VR; exact ⟨_, rfl, v1⟩⟩ rfl rfl
      simp only [Instr.makeInterface, Sem.run_bind, run_underlying hu, Result.andThen_ok]
      rfl
    · cases ht
  case sliceToArrayPointer t x =>
    have v1 := hr x (by simp)
    split at h
    case h_2 => cases h
    rename_i n _ b p len _ ht hx
    injection h with h; subst h
    rw [hx] at v1
    unfold VR at v1
    obtain ⟨hdb, ad, cap, e, hlc, ha⟩ := v1
    obtain ⟨hp1, hp2⟩ := hp
    obtain ⟨rfl, _⟩ := ha (by omega)
    refine RunsTo.val hm ⟨_, ?_, by unfold VR; exact ⟨hdb, rfl⟩⟩ rfl rfl
    rw [e]
    have hnl : ¬ (len < n) := by omega
    simp [Instr.arrayAt, run_underlying (arrT_some ht), hnl]
  case makeFunc fn first caps =>
    split at h
    case h_3 => cases h
    case h_2 =>
      split at h
      case h_2 => cases h
      rename_i t v hl
      injection h with h; subst h
      have hls := list_reads (ρ := ρ) (dom := dom) (w := w) (a := a) (ev := ev) (l := first.toList) fun y hy => hr y (by simp; exact .inl (by simpa using hy))
      rw [hl] at hls
      unfold VRs at hls
      obtain ⟨r, rs, e1, e2, e3⟩ := hls
      unfold VR at e2
      obtain ⟨r', e2, _⟩ := e2
      unfold VRs at e3
      subst e3 e2
      refine RunsTo.val hm ⟨_, rfl, ?_⟩ rfl rfl
      unfold VR
      refine ⟨r', caps.map a.eval, ?_⟩
      rw [show first.map a.eval = #[.iface t r'] from by
        apply Array.ext'
        rw [Array.toList_map]; exact e1]
    rename_i f
    injection h with h; subst h
    refine RunsTo.val hm ⟨_, rfl, ?_⟩ rfl rfl
    unfold VR
    exact ⟨_, _, rfl, by simpa using list_reads fun y hy => hr y (by simp; exact .inl (by simpa using hy)), by simpa using list_reads fun y hy => hr y (by simp; exact .inr (by simpa using hy))⟩
  case makeSlice t l c =>
    have v1 := hr l (by simp)
    have v2 := hr c (by simp)
    split at h
    case h_2 => cases h
    rename_i e n m he hn hm'
    split at h
    case h_2 => cases h
    rename_i s by_ z hs hb hz
    split at h
    case isFalse => cases h
    rename_i hc
    injection h with h; subst h
    obtain ⟨rfl, p2, p3, p4⟩ := hp
    rw [hn] at v1; rw [hm'] at v2
    unfold VR at v1 v2
    rw [v1, v2]
    exact (makeSlice_sound (sliceT_some he) hs hb hz hc.1 hc.2 p2 p3 p4 hm (hd nid (Nat.le_refl _) (by simp))).weaken rfl rfl rfl
  case slice t x lo hi mx =>
    cases mx with
    | some _ => simp at h
    | none =>
      simp only [Option.isSome_none, Bool.false_eq_true, if_false] at h
      have v1 := hr x (by simp)
      have o1 := opt_reads (x := lo) fun y hy => hr y (by simp at hy ⊢; simp [hy])
      have o2 := opt_reads (x := hi) fun y hy => hr y (by simp at hy ⊢; simp [hy])
      simp only [Option.map_none]
      split at h
      · rename_i s hu hx
        split at h
        case h_2 => cases h
        rename_i l hh hl hhh
        injection h with h; subst h
        rw [hx] at v1
        exact RunsTo.val hm (slice_str_sound hu v1 hl hhh hp.1 hp.2.1 hp.2.2 o1 o2) rfl rfl
      · rename_i e b p len esz hu hx
        split at h
        case h_2 => cases h
        rename_i l hh hl hhh
        split at h
        case h_2 => cases h
        rename_i s hs
        split at h
        case isFalse => cases h
        rename_i he
        subst he
        injection h with h; subst h
        rw [hx] at v1
        exact RunsTo.val hm (slice_slice_sound hu hs v1 hl hhh hp.1 hp.2.1 hp.2.2 o1 o2) rfl rfl
      · rename_i e hu hx
        split at h
        case h_2 => cases h
        rename_i l hh s hl hhh hs
        injection h with h; subst h
        obtain ⟨rfl, rfl⟩ := hp
        rw [hx] at v1
        have v2 := v1
        unfold VR at v2
        have hb := bounds_sound (P := P) (isS := true) (cap := 0) hl hhh (Int.le_refl _) (Int.le_refl _) (Int.le_refl _) (Nat.le_refl _) o1 o2
        refine RunsTo.val hm ⟨_, ?_, v1⟩ rfl rfl
        rw [v2]
        simp [Instr.sliceAt, run_underlying hu, Instr.slice, hb, sizeOf_run hs]
      · rename_i n e b p hu hx
        split at h
        case h_2 => cases h
        rename_i l hh s cs hl hhh hs hB
        injection h with h; subst h
        rw [hx] at v1
        exact RunsTo.val hm (slice_arr_sound hu hs hm (by rw [hfp b (by simp)]; exact hB) v1 hl hhh hp.1 hp.2.1 hp.2.2.1 hp.2.2.2 o1 o2) rfl rfl
      · cases h
  case fieldAddr s x f =>
    have v1 := hr x (by simp)
    split at h
    case h_2 => cases h
    rename_i off ft b p hfl hx
    split at h
    case h_2 => cases h
    rename_i n hn
    split at h
    case isTrue => cases h
    rename_i hn0
    injection h with h; subst h
    rw [hx] at v1
    unfold VR at v1
    obtain ⟨hdb, e⟩ := v1
    unfold fldOf at hfl
    split at hfl
    case h_2 => cases hfl
    rename_i fs hu
    split at hfl
    case h_2 => cases hfl
    rename_i fld hfld
    injection hfl with hfl
    simp only [Prod.mk.injEq] at hfl
    obtain ⟨rfl, rfl⟩ := hfl
    refine RunsTo.val hm ⟨.pointer (some ⟨(ρ b).1, (ρ b).2 + (p + fld.offset), none⟩), ?_, by unfold VR; exact ⟨hdb, rfl⟩⟩ rfl rfl
    rw [e]
    simp [Instr.fieldAt, run_underlying hu, hfld, Instr.sureAddr, fieldPlace, sizeOf_run hn, hn0, addr_add, Nat.add_assoc]
  case indexAddr t x i =>
    have v1 := hr x (by simp)
    have v2 := hr i (by simp)
    split at h
    · rename_i n e b p ii hu hx hi
      split at h
      case h_2 => cases h
      rename_i s hs
      injection h with h; subst h
      rw [hx] at v1
      exact RunsTo.val hm (index_arr_sound hu hs v1 hi v2 hp.1 hp.2) rfl rfl
    · rename_i e b p len esz ii hu hx hi
      split at h
      case h_2 => cases h
      rename_i s hs
      split at h
      case isFalse => cases h
      rename_i he
      subst he
      injection h with h; subst h
      rw [hx] at v1
      exact RunsTo.val hm (index_slice_sound hu hs v1 hi v2 hp.1 hp.2) rfl rfl
    · cases h
  case index t x i =>
    have v1 := hr x (by simp)
    have v2 := hr i (by simp)
    split at h
    · rename_i n e cs ii hu hx hi
      rw [hx] at v1
      split at h
      · rename_i s ht hs
        injection h with h; subst h
        have := index_agg_sound hu ht hs v1 hi v2 hp.1 hp.2.1
        simp only [Bool.false_eq_true, if_false] at this
        exact RunsTo.val hm (this hp.2.2) rfl rfl
      · rename_i s ht hs
        injection h with h; subst h
        have := index_agg_sound hu ht hs v1 hi v2 hp.1 hp.2
        simp only [if_true] at this
        exact RunsTo.val hm this rfl rfl
      · cases h
    · rename_i s ii hu hx hi
      injection h with h; subst h
      rw [hx] at v1
      exact RunsTo.val hm (index_str_sound hu v1 hi v2 hp.1 hp.2) rfl rfl
    · cases h
  case extract t i =>
    have v1 := hr t (by simp)
    split at h
    case h_2 => cases h
    rename_i vs hx
    split at h
    case h_2 => cases h
    rename_i v hv
    injection h with h; subst h
    rw [hx] at v1
    unfold VR at v1
    obtain ⟨rs, e, hrs⟩ := v1
    obtain ⟨r, g1, g2⟩ := hrs.get hv
    refine RunsTo.val hm ⟨r, ?_, g2⟩ rfl rfl
    rw [e]
    have : rs[i]? = some r := by rw [← g1]; simp
    simp [Instr.extract, this]
  case call c =>
    obtain ⟨callee, args, argTypes⟩ := c
    cases callee with
    | builtin b =>
      exact builtin_sound (ty := type) (a := a) h hp (fun y hy => hr y (by simp [Call.operands]; simpa using hy)) hm hfp hd
    | value f => simp at h
    | invoke r m => simp at h
  all_goals cases h
end
end Go.Vm
end
section
namespace Go.Vm

/-- A state: what is known of the slots (the latest first), and of memory. -/
structure St where
  t : List (Nat × V)
  H : List (Option Blk)

def lookS : List (Nat × V) → Nat → V
  | [], _ => .junk
  | (i, v) :: r, t => if i = t then v else lookS r t
def St.get (s : St) (t : Nat) : V := lookS s.t t
def getH (H : List (Option Blk)) (b : Nat) : Option Blk := (H[b]?).join
def St.ev (s : St) : Operand → V
  | .tmp t => s.get t
  | .const v => ofValue v
  | .func f => .fn f [] []
  | .global _ => .junk
def setOlds (H : List (Option Blk)) : List (Nat × Option Blk) → List (Option Blk)
  | [] => H
  | (i, x) :: r => (setOlds H r).set i x
def putS (t : List (Nat × V)) : Option Tmp → V → List (Nat × V)
  | some d, v => (d, v) :: t
  | none, _ => t
def St.after (s : St) (dst : Option Tmp) (res : Res) : St := ⟨putS s.t dst res.v, setOlds s.H res.old ++ res.news⟩
def St.put (s : St) (dst : Option Tmp) (v : V) : St := ⟨putS s.t dst v, s.H⟩
def dstOk (n : Nat) : Option Tmp → Prop
  | some d => d < n
  | none => True

/-- The machine's frame reads as T. -/
structure RelT (ρ : Nat → Nat × Nat) (dom : Nat → Prop) (w : World) (n : Nat) (T : Nat → V) (a : Act) : Prop where
  size : a.tmps.size = n
  defers : a.defers = []
  slot : ∀ t, VR ρ dom w (T t) (a.tmps.getD t undef)
/-- The machine's state reads as s. -/
structure RelSt (ρ : Nat → Nat × Nat) (n : Nat) (s : St) (a : Act) (w : World) : Prop where
  tmps : RelT ρ (· < s.H.length) w n s.get a
  mem : MemRel ρ (· < s.H.length) (getH s.H) w

section
variable {ρ ρ' : Nat → Nat × Nat} {dom dom' : Nat → Prop} {P : Program} {w w' : World} {n : Nat} {a : Act}

theorem RelT.mono {T : Nat → V} (h : RelT ρ dom w n T a) (hρ : ∀ b, dom b → ρ' b = ρ b) (hd : ∀ b, dom b → dom' b) (hl : Lasts w w') : RelT ρ' dom' w' n T a :=
  ⟨h.size, h.defers, fun t => (h.slot t).mono hρ hd hl⟩
theorem RelT.eval {s : St} (h : RelT ρ dom w n s.get a) (x : Operand) : VR ρ dom w (s.ev x) (a.eval x) := by
  cases x with
  | tmp t => exact h.slot t
  | const v => exact ofValue_sound v
  | global g => show VR ρ dom w .junk _; unfold VR; trivial
  | func f => show VR ρ dom w (.fn f [] []) _; unfold VR; exact ⟨#[], #[], rfl, VRs.nil, VRs.nil⟩
theorem put_tmps (a : Act) (d : Tmp) (r : Value) (t : Nat) (hd : d < a.tmps.size) : (a.put (some d) r).tmps.getD t undef = if d = t then r else a.tmps.getD t undef := by
  simp only [Act.put, Array.getD_eq_getD_getElem?, Array.getElem?_setIfInBounds]
  by_cases e : d = t
  · subst e; simp [hd]
  · simp [e]
theorem RelT.put {t : List (Nat × V)} {dst : Option Tmp} {v : V} {r : Value} (h : RelT ρ dom w n (lookS t) a) (hd : dstOk n dst) (hv : VR ρ dom w v r) : RelT ρ dom w n (lookS (putS t dst v)) (a.put dst r) := by
  cases dst with
  | none => exact h
  | some d =>
    refine ⟨by simpa [Act.put] using h.size, h.defers, fun t' => ?_⟩
    rw [put_tmps a d r t' (by rw [h.size]; exact hd)]
    show VR ρ dom w (if d = t' then v else lookS t t') _
    by_cases e : d = t'
    · rw [if_pos e, if_pos e]; exact hv
    · rw [if_neg e, if_neg e]; exact h.slot t'

theorem length_setOlds (H : List (Option Blk)) : ∀ old, (setOlds H old).length = H.length
  | [] => rfl
  | (i, x) :: r => by simp [setOlds, length_setOlds H r]
theorem get_setOlds (H : List (Option Blk)) : ∀ old (b : Nat), b < H.length → getH (setOlds H old) b = lookOld old b (getH H b)
  | [], _, _ => rfl
  | (i, x) :: r, b, hb => by
    have ih := get_setOlds H r b hb
    unfold getH at *
    simp only [setOlds, lookOld, List.getElem?_set]
    by_cases e : i = b
    · subst e
      rw [if_pos rfl, if_pos (by rw [length_setOlds]; exact hb), if_pos rfl]; rfl
    · rw [if_neg e, if_neg (fun x => e x.symm)]; exact ih
/-- What the list says after an operation, the machine's memory bears. -/
theorem get_after (s : St) (dst : Option Tmp) (res : Res) (b : Nat) (B : Blk) (h : getH (s.after dst res).H b = some B) : upd (getH s.H) res.old s.H.length res.news b = some B := by
  unfold upd
  show (if s.H.length ≤ b ∧ b < s.H.length + res.news.length then _ else _) = _
  have hl := length_setOlds s.H res.old
  simp only [St.after] at h
  by_cases hb : b < s.H.length
  · rw [if_neg (by omega), ← get_setOlds s.H res.old b hb]
    unfold getH at h ⊢
    rw [List.getElem?_append_left (by omega)] at h
    exact h
  · unfold getH at h
    rw [List.getElem?_append_right (by omega), hl] at h
    by_cases h2 : b < s.H.length + res.news.length
    · rw [if_pos ⟨by omega, h2⟩]; exact h
    · rw [List.getElem?_eq_none (by omega)] at h; cases h

/-- What is known of a function: called with these arguments it returns, and comes to res. -/
def Spec (P : Program) (f : FuncId) (args : List V) (get0 : Nat → Option Blk) (nid : Nat) (res : Res) : Prop :=
  ∀ (ρ : Nat → Nat × Nat) (dom : Nat → Prop) (get : Nat → Option Blk) (w : World) (rargs : Array Value), MemRel ρ dom get w → VRs ρ dom w args rargs.toList → (∀ b ∈ res.fp, get b = get0 b) → (∀ b, nid ≤ b → b < nid + res.news.length → ¬ dom b) →
    Calls P f rargs w fun e w' => ∃ r ρ', e = .returned r ∧ (∀ b, dom b → ρ' b = ρ b) ∧ MemRel ρ' (domWith dom nid res.news.length) (upd get res.old nid res.news) w' ∧ VR ρ' (domWith dom nid res.news.length) w' res.v r ∧ Frame ρ get w ρ' (upd get res.old nid res.news) w'
/-- Can it be called (a Go body, not a name that the machine keeps to itself)? -/
def callable (P : Program) (f : FuncId) : Bool := match P.funcs[f]? with
  | some fn => fn.name != "runtime.NumGoroutine" && fn.body.isSome
  | none => false
/-- A function without a body, for which the machine itself stands in: it answers at once, and nothing turns. -/
def NatFn (P : Program) (f : FuncId) (args : List V) (v : V) : Prop :=
  ∀ (ρ : Nat → Nat × Nat) (dom : Nat → Prop) (w : World) (rargs : Array Value), VRs ρ dom w args rargs.toList → ∃ r, (callFunc f rargs).run P w = .ok (.value r) w ∧ VR ρ dom w v r
/-- A call of a function value. -/
def VCall (P : Program) (fv : V) (args : List V) (get0 : Nat → Option Blk) (nid : Nat) (res : Res) : Prop :=
  (∃ f fs cs, fv = .fn f fs cs ∧ callable P f = true ∧ res.pre ∧ Spec P f (fs ++ args ++ cs) get0 nid res) ∨
  (∃ f fs cs, fv = .fn f fs cs ∧ res.old = [] ∧ res.news = [] ∧ NatFn P f (fs ++ args ++ cs) res.v)

/-- The rule of one operation: whatever the machine does, it comes to res. -/
def OpExec (P : Program) (o : Oper) (ev : Operand → V) (get0 : Nat → Option Blk) (nid : Nat) (res : Res) : Prop :=
  ∀ (ρ : Nat → Nat × Nat) (dom : Nat → Prop) (get : Nat → Option Blk) (w : World) (a : Act) (next : Act → World → Prop) (Q : Exit → Act → World → Prop),
    (∀ x ∈ o.op.operands.toList, VR ρ dom w (ev x) (a.eval x)) → MemRel ρ dom get w → (∀ b ∈ res.fp, get b = get0 b) → (∀ b, nid ≤ b → b < nid + res.news.length → ¬ dom b) →
    (∀ ρ' w' r, (∀ b, dom b → ρ' b = ρ b) → MemRel ρ' (domWith dom nid res.news.length) (upd get res.old nid res.news) w' → VR ρ' (domWith dom nid res.news.length) w' res.v r → Frame ρ get w ρ' (upd get res.old nid res.news) w' → next (a.put o.dst r) w') →
    o.wp P a w next Q

theorem OpExec.of_vop {o : Oper} {ev : Operand → V} {get0 : Nat → Option Blk} {nid : Nat} {res : Res} (h : vop P o.op ev get0 nid = some res) (hp : res.pre) : OpExec P o ev get0 nid res := by
  intro ρ dom get w a next Q hr hm hfp hd hn
  obtain ⟨ρ', w', r, h1, h2, h3, h4, h5⟩ := vop_sound h hp hr hm hfp hd
  unfold Oper.wp
  rcases h1 with h1 | ⟨h1, rfl⟩
  · rw [h1, Oper.upon_value]; exact hn ρ' w' r h2 h3 h4 h5
  · rw [h1, Oper.upon_skip]; exact hn ρ' w' undef h2 h3 h4 h5

theorem run_callFunc {f : FuncId} {args : Array Value} (h : callable P f = true) : (callFunc f args).run P w = .ok (.enter f args) w := by
  unfold callable at h
  unfold callFunc
  cases hf : P.funcs[f]? with
  | none => rw [hf] at h; cases h
  | some fn =>
    rw [hf] at h
    simp only [Bool.and_eq_true, bne_iff_ne] at h
    have h2 : fn.body ≠ none := fun e => by rw [e] at h; simp at h
    simp [hf, h.1, h2]

theorem OpExec.of_call {o : Oper} {c : Call} {fx : Operand} {ev : Operand → V} {get0 : Nat → Option Blk} {nid : Nat} {res : Res} (ho : o.op = .call c) (hc : c.callee = .value fx) (h : VCall P (ev fx) (c.args.toList.map ev) get0 nid res) : OpExec P o ev get0 nid res := by
  intro ρ dom get w a next Q hr hm hfp hd hn
  rcases h with ⟨f, fs, cs, hf, hcb, _, hs⟩ | ⟨f, fs, cs, hf, h0, h1, hs⟩
  rotate_left
  · rw [ho] at hr
    have hv := hr fx (by simp [Op.operands, Call.operands, hc])
    rw [hf] at hv
    unfold VR at hv
    obtain ⟨f', c', e, g1, g2⟩ := hv
    have hargs : VRs ρ dom w (c.args.toList.map ev) (c.args.toList.map a.eval) := list_reads fun y hy => hr y (by simp [Op.operands, Call.operands, hc]; exact .inr (by simpa using hy))
    obtain ⟨r, hn1, hn2⟩ := hs ρ dom w (f' ++ c.args.map a.eval ++ c') (by simpa using (g1.append hargs).append g2)
    have hrun : (execOp a.eval o).run P w = .ok (.value r) w := by
      unfold execOp
      rw [ho]
      simp only [resolve, hc, e, Deferred.ofValue, Sem.run_bind, Sem.run_pure, Result.andThen_ok, invoke, hn1]
    unfold Oper.wp
    rw [hrun, Oper.upon_value]
    have hsub : ∀ b, dom b → domWith dom nid res.news.length b := fun b hb => Or.inl hb
    refine hn ρ w r (fun _ _ => rfl) ?_ (hn2.mono (fun b _ => rfl) hsub (Lasts.refl _)) ?_
    · rw [h0, h1, upd_nil]; exact hm.monoDom fun b hb => Or.inl hb
    · rw [h0, h1, upd_nil]; exact Frame.refl ρ get w
  rw [ho] at hr
  have hv := hr fx (by simp [Op.operands, Call.operands, hc])
  rw [hf] at hv
  unfold VR at hv
  obtain ⟨f', c', e, g1, g2⟩ := hv
  have hargs : VRs ρ dom w (c.args.toList.map ev) (c.args.toList.map a.eval) := list_reads fun y hy => hr y (by simp [Op.operands, Call.operands, hc]; exact .inr (by simpa using hy))
  have hrun : (execOp a.eval o).run P w = .ok (.enter f (f' ++ c.args.map a.eval ++ c')) w := by
    unfold execOp
    rw [ho]
    simp only [resolve, hc, e, Deferred.ofValue, Sem.run_bind, Sem.run_pure, Result.andThen_ok, invoke, run_callFunc hcb]
  unfold Oper.wp
  rw [hrun, Oper.upon_enter]
  refine (hs ρ dom get w (f' ++ c.args.map a.eval ++ c') hm (by simpa using (g1.append hargs).append g2) hfp hd).mono fun e w' he => ?_
  obtain ⟨r, ρ', rfl, h2, h3, h4, h5⟩ := he
  exact hn ρ' w' r h2 h3 h4 h5

theorem meth_run {t : TypeId} {name : String} {f : FuncId} (h : methOf P t name = some f) (k : Nat) (v : Value) (w : World) : (method (k + 1) t v name).run P w = .ok (f, v) w := by
  unfold methOf at h
  split at h
  case h_2 => cases h
  rename_i i d hi hu
  split at h
  case h_2 => cases h
  rename_i mm hm
  split at h
  case isFalse => cases h
  rename_i hp
  have hpl : mm.path.toList = [] := by
    have := Array.isEmpty_iff.1 hp
    rw [this]
  unfold method
  have h1 : (typeInfo t).run P w = .ok i w := by simp [typeInfo, hi]
  simp only [Sem.run_bind, h1, Result.andThen_ok, hm, hpl, follow, Sem.run_pure]
  split at h
  · rename_i f' _ hf
    injection h with h; subst h
    rw [hf]
    simp only [receiverAt, Sem.run_bind, run_underlying hu, Result.andThen_ok, Place.get, Sem.run_pure]
  · cases h
  · cases h
  · rename_i f' hf hnp
    injection h with h; subst h
    rw [hf]
    simp only [receiverAt, Sem.run_bind, run_underlying hu, Result.andThen_ok, Place.get, Sem.run_pure]
  · cases h
theorem OpExec.of_invoke {o : Oper} {c : Call} {x : Operand} {name : String} {t : TypeId} {v : V} {f : FuncId} {ev : Operand → V} {get0 : Nat → Option Blk} {nid : Nat} {res : Res} (ho : o.op = .call c) (hc : c.callee = .invoke x name) (hx : ev x = .iface t v) (hm : methOf P t name = some f) (h : VCall P (.fn f [] []) (v :: c.args.toList.map ev) get0 nid res) : OpExec P o ev get0 nid res := by
  intro ρ dom get w a next Q hr hmem hfp hd hn
  rw [ho] at hr
  have hv := hr x (by simp [Op.operands, Call.operands, hc])
  rw [hx] at hv
  unfold VR at hv
  obtain ⟨r0, e, g0⟩ := hv
  have hargs : VRs ρ dom w (c.args.toList.map ev) (c.args.toList.map a.eval) := list_reads fun y hy => hr y (by simp [Op.operands, Call.operands, hc]; exact .inr (by simpa using hy))
  have hall : VRs ρ dom w (v :: c.args.toList.map ev) (#[r0] ++ c.args.map a.eval).toList := by
    rw [Array.toList_append, Array.toList_map]
    exact VRs.cons g0 hargs
  have hcall : (execOp a.eval o).run P w = (callFunc f (#[r0] ++ c.args.map a.eval)).run P w := by
    unfold execOp
    rw [ho]
    have hx0 : (#[Value.iface t r0] ++ c.args.map a.eval)[0]? = some (.iface t r0) := by
      rw [Array.getElem?_append_left (by simp)]; rfl
    have hxx : (#[Value.iface t r0] ++ c.args.map a.eval).extract 1 (#[Value.iface t r0] ++ c.args.map a.eval).size = c.args.map a.eval := by
      apply Array.ext'
      simp
      rw [List.take_of_length_le (by simp)]
    have hpr : (program : Sem Program).run P w = .ok P w := by rfl
    simp only [resolve, hc, e, Sem.run_bind, Sem.run_pure, Result.andThen_ok, invoke, hx0, callMethod, hxx, hpr]
    have hd : P.types.size + Made.depth = (P.types.size + Made.depth - 1) + 1 := by unfold Made.depth; omega
    rw [hd, meth_run hm]
    rfl
  rcases h with ⟨g, fs, cs, hf, hcb, _, hs⟩ | ⟨g, fs, cs, hf, h0, h1, hs⟩
  rotate_left
  · injection hf with hf1 hf2 hf3
    subst hf1 hf2 hf3
    simp only [List.nil_append, List.append_nil] at hs
    obtain ⟨r, hn1, hn2⟩ := hs ρ dom w _ hall
    unfold Oper.wp
    rw [hcall, hn1, Oper.upon_value]
    have hsub : ∀ b, dom b → domWith dom nid res.news.length b := fun b hb => Or.inl hb
    refine hn ρ w r (fun _ _ => rfl) ?_ (hn2.mono (fun b _ => rfl) hsub (Lasts.refl _)) ?_
    · rw [h0, h1, upd_nil]; exact hmem.monoDom fun b hb => Or.inl hb
    · rw [h0, h1, upd_nil]; exact Frame.refl ρ get w
  injection hf with hf1 hf2 hf3
  subst hf1 hf2 hf3
  simp only [List.nil_append, List.append_nil] at hs
  unfold Oper.wp
  rw [hcall, run_callFunc hcb, Oper.upon_enter]
  refine (hs ρ dom get w _ hmem hall hfp hd).mono fun e w' he => ?_
  obtain ⟨r, ρ', rfl, h2, h3, h4, h5⟩ := he
  exact hn ρ' w' r h2 h3 h4 h5

/-- What goes on behind an operation (the simplifier does not look into K). -/
def vthen (r : Option Res) (K : Res → Prop) : Prop := match r with
  | some res => res.pre ∧ K res
  | none => False
theorem vthen_some (r : Res) (K : Res → Prop) : vthen (some r) K = (r.pre ∧ K r) := rfl
theorem vthen_none (K : Res → Prop) : vthen none K = False := rfl
@[congr] theorem vthen_congr {r r' : Option Res} {K : Res → Prop} (h : r = r') : vthen r K = vthen r' K := by rw [h]
/-- A call: what is known of the callee is laid by hand. -/
def vcall (P : Program) (f : V) (args : List V) (H : List (Option Blk)) (K : Res → Prop) : Prop := ∃ res, VCall P f args (getH H) H.length res ∧ K res
@[congr] theorem vcall_congr {P : Program} {f f' : V} {args args' : List V} {H H' : List (Option Blk)} {K : Res → Prop} (h1 : f = f') (h2 : args = args') (h3 : H = H') : vcall P f args H K = vcall P f' args' H' K := by rw [h1, h2, h3]
/-- A call through an interface's value. -/
def vinvoke (P : Program) (v : V) (name : String) (args : List V) (H : List (Option Blk)) (K : Res → Prop) : Prop := match v with
  | .iface t v => match methOf P t name with
    | some f => vcall P (.fn f [] []) (v :: args) H K
    | none => False
  | _ => False
@[congr] theorem vinvoke_congr {P : Program} {v v' : V} {name : String} {args args' : List V} {H H' : List (Option Blk)} {K : Res → Prop} (h1 : v = v') (h2 : args = args') (h3 : H = H') : vinvoke P v name args H K = vinvoke P v' name args' H' K := by rw [h1, h2, h3]
/-- The rule of one operation, in the state s. -/
def vexec (P : Program) (o : Op) (s : St) (K : Res → Prop) : Prop := match o with
  | .call c => match c.callee with
    | .value f => vcall P (s.ev f) (c.args.toList.map s.ev) s.H K
    | .builtin b => vthen (vbuiltin P b c.argTypes.toList (c.args.toList.map s.ev) (getH s.H) s.H.length) K
    | .invoke x name => vinvoke P (s.ev x) name (c.args.toList.map s.ev) s.H K
  | op => vthen (vop P op s.ev (getH s.H) s.H.length) K
@[congr] theorem vexec_congr {P : Program} {o : Op} {s s' : St} {K : Res → Prop} (h : s = s') : vexec P o s K = vexec P o s' K := by rw [h]
theorem vexec_sound {o : Oper} {s : St} {K : Res → Prop} (h : vexec P o.op s K) : ∃ res, OpExec P o s.ev (getH s.H) s.H.length res ∧ K res := by
  have fin : vthen (vop P o.op s.ev (getH s.H) s.H.length) K → ∃ res, OpExec P o s.ev (getH s.H) s.H.length res ∧ K res := fun h => by
    unfold vthen at h
    split at h
    · rename_i res hv; exact ⟨res, OpExec.of_vop hv h.1, h.2⟩
    · exact h.elim
  unfold vexec at h
  split at h
  · rename_i c hc
    split at h
    · rename_i f hf
      obtain ⟨res, h1, h2⟩ := h
      exact ⟨res, OpExec.of_call hc hf h1, h2⟩
    · rename_i b hb
      refine fin ?_
      rw [hc]
      simp only [vop, hb]
      exact h
    · rename_i x name hf
      unfold vinvoke at h
      split at h
      case h_2 => exact h.elim
      rename_i t v hv
      split at h
      case h_2 => exact h.elim
      rename_i f hm
      obtain ⟨res, h1, h2⟩ := h
      exact ⟨res, OpExec.of_invoke hc hf hv hm h1, h2⟩
  · exact fin h

def guardSlot (ops : Array Oper) (j : Nat) : Option Tmp := (ops[j]?).bind (·.dst)
/-- Something that the simplifier does not look into. -/
def hold {α : Type} (x : α) : α := x
@[congr] theorem hold_congr {α : Type} (x : α) : hold x = hold x := rfl
/-- A guarded operation: does its guard want it? -/
def vguard (v : V) (want : Bool) (X Y : Prop) : Prop := match v with
  | .bool b => (b = want → X) ∧ (b ≠ want → Y)
  | .tup [] => Y
  | _ => False
/-- A region's operations, one behind the other. -/
def vops (P : Program) (n : Nat) (ops : Array Oper) : List Oper → St → (St → Prop) → Prop
  | [], s, K => K s
  | o :: rest, s, K => dstOk n o.dst ∧ match o.guard with
    | none => vexec P o.op s (hold fun res => vops P n ops rest (s.after o.dst res) K)
    | some (j, want) => match guardSlot ops j with
      | some d => d < n ∧ vguard (s.get d) want (vexec P o.op s (hold fun res => vops P n ops rest (s.after o.dst res) K)) (vops P n ops rest (s.put o.dst (.tup [])) K)
      | none => False
@[congr] theorem vops_congr {P : Program} {n : Nat} {ops : Array Oper} {l : List Oper} {s s' : St} {K : St → Prop} (h : s = s') : vops P n ops l s K = vops P n ops l s' K := by rw [h]

/-- What has become of it all, told of two states: nothing else has turned; the first m blocks lie where they lay. -/
def Step (m : Nat) (ρ : Nat → Nat × Nat) (s : St) (w : World) (ρ' : Nat → Nat × Nat) (s' : St) (w' : World) : Prop :=
  m ≤ s'.H.length ∧ (∀ b, b < m → ρ' b = ρ b) ∧ Frame ρ (getH s.H) w ρ' (getH s'.H) w'
theorem Step.refl {m : Nat} {s : St} (h : m ≤ s.H.length) : Step m ρ s w ρ s w := ⟨h, fun _ _ => rfl, Frame.refl _ _ _⟩
theorem Step.trans {m : Nat} {ρ'' : Nat → Nat × Nat} {s s' s'' : St} {w'' : World} (h : Step m ρ s w ρ' s' w') (k : Step m ρ' s' w' ρ'' s'' w'') : Step m ρ s w ρ'' s'' w'' :=
  ⟨k.1, fun b hb => (k.2.1 b hb).trans (h.2.1 b hb), h.2.2.trans k.2.2⟩

/-- The machine's rest of the way, told in the machine's words: from here on Q is met by what reads as a state that meets K. -/
def Lift (m n : Nat) (ρ : Nat → Nat × Nat) (s : St) (w : World) (K : St → Prop) (a' : Act) (w' : World) : Prop := ∃ s' ρ', K s' ∧ RelSt ρ' n s' a' w' ∧ Step m ρ s w ρ' s' w'

theorem wanted_some {ops : Array Oper} {o : Oper} {j d : Nat} {want b : Bool} (hg : o.guard = some (j, want)) (hs : guardSlot ops j = some d) (hd : d < a.tmps.size) (hv : a.tmps.getD d undef = .bool b) : Region.wanted o (yielded ops a.tmps) = (b == want) := by
  have hy : yielded ops a.tmps j = some b := by
    unfold yielded
    unfold guardSlot at hs
    rw [hs]
    have : a.tmps[d]? = some (.bool b) := by
      rw [Array.getD_eq_getD_getElem?] at hv
      cases hq : a.tmps[d]? with
      | none => simp at hq; omega
      | some x => rw [hq] at hv; simpa using hv
    simp [this]
  unfold Region.wanted
  rw [hg]
  simp only [hy]
  cases b <;> cases want <;> rfl

theorem wanted_undef {ops : Array Oper} {o : Oper} {j d : Nat} {want : Bool} (hg : o.guard = some (j, want)) (hs : guardSlot ops j = some d) (hv : a.tmps.getD d undef = .tuple #[]) : Region.wanted o (yielded ops a.tmps) = false := by
  have hy : yielded ops a.tmps j = none := by
    unfold yielded
    unfold guardSlot at hs
    rw [hs]
    rw [Array.getD_eq_getD_getElem?] at hv
    cases hq : a.tmps[d]? with
    | none => simp [hq]
    | some x =>
      rw [hq] at hv
      have : x = .tuple #[] := by simpa using hv
      subst this
      simp [hq]
  unfold Region.wanted
  rw [hg]
  simp only [hy]
  cases want <;> rfl
theorem undef_tup : VR ρ dom w (.tup []) undef := by unfold VR; exact ⟨#[], rfl, VRs.nil⟩
theorem after_rel {m : Nat} {s : St} {o : Oper} {res : Res} {r : Value} (h : RelSt ρ n s a w) (hm : m ≤ s.H.length) (hd : dstOk n o.dst) (hρ : ∀ b, b < s.H.length → ρ' b = ρ b)
    (h3 : MemRel ρ' (domWith (· < s.H.length) s.H.length res.news.length) (upd (getH s.H) res.old s.H.length res.news) w') (h4 : VR ρ' (domWith (· < s.H.length) s.H.length res.news.length) w' res.v r)
    (h5 : Frame ρ (getH s.H) w ρ' (upd (getH s.H) res.old s.H.length res.news) w') : RelSt ρ' n (s.after o.dst res) (a.put o.dst r) w' ∧ Step m ρ s w ρ' (s.after o.dst res) w' := by
  have hlen : (s.after o.dst res).H.length = s.H.length + res.news.length := by simp [St.after, length_setOlds]
  have hdm : ∀ b, domWith (· < s.H.length) s.H.length res.news.length b → b < (s.after o.dst res).H.length := fun b hb => by
    rw [hlen]
    rcases hb with hb | hb
    · have : b < s.H.length := hb; omega
    · exact hb.2
  have hg := get_after s o.dst res
  refine ⟨⟨?_, ?_⟩, ?_, ?_, ?_⟩
  · exact RelT.put (h.tmps.mono hρ (fun b hb => hdm b (.inl hb)) h5.lasts) hd (h4.mono (fun _ _ => rfl) hdm (Lasts.refl _))
  · exact (h3.less hg).monoDom hdm
  · rw [hlen]; omega
  · exact fun b hb => hρ b (by omega)
  · exact h5.less fun b B hB hro => ⟨b, B, hg b B hB, hro, rfl⟩

theorem vops_sound {m : Nat} {ops : Array Oper} {Q : Exit → Act → World → Prop} : ∀ (l : List Nat) (os : List Oper) (s : St) (K : St → Prop), l.map (ops[·]?) = os.map some → vops P n ops os s K → ∀ (ρ : Nat → Nat × Nat) (a : Act) (w : World), RelSt ρ n s a w → m ≤ s.H.length →
    (∀ a' w', Lift m n ρ s w K a' w' → Q .normal a' w') → wpOps P ops Q l a w
  | [], [], s, K, _, h, ρ, a, w, hr, hm, hq => hq a w ⟨s, ρ, h, hr, Step.refl hm⟩
  | [], _ :: _, _, _, hl, _, _, _, _, _, _, _ => by simp at hl
  | _ :: _, [], _, _, hl, _, _, _, _, _, _, _ => by simp at hl
  | i :: l, o :: os, s, K, hl, h, ρ, a, w, hr, hm, hq => by
    simp only [List.map_cons, List.cons.injEq] at hl
    obtain ⟨ho, hl⟩ := hl
    obtain ⟨hd, h⟩ := h
    have go : Region.wanted o (yielded ops a.tmps) = true → (vexec P o.op s fun res => vops P n ops os (s.after o.dst res) K) → wpOps P ops Q (i :: l) a w := fun hw hx => by
      obtain ⟨res, h1, h2⟩ := vexec_sound hx
      simp only [wpOps, ho, hw, if_true]
      refine .inl (h1 ρ (· < s.H.length) (getH s.H) w a _ Q (fun x _ => hr.tmps.eval x) hr.mem (fun _ _ => rfl) (fun b hb1 hb2 (hb3 : b < s.H.length) => by omega) ?_)
      intro ρ' w' r g1 g2 g3 g4
      obtain ⟨k1, k2⟩ := after_rel (m := m) hr hm hd g1 g2 g3 g4
      refine vops_sound l os _ K hl h2 ρ' _ w' k1 k2.1 fun a' w'' ⟨s', ρ'', q1, q2, q3⟩ => hq a' w'' ⟨s', ρ'', q1, q2, k2.trans q3⟩
    cases hg : o.guard with
    | none =>
      rw [hg] at h
      exact go (by unfold Region.wanted; rw [hg]) h
    | some g =>
      obtain ⟨j, want⟩ := g
      rw [hg] at h
      simp only at h
      split at h
      case h_2 => exact h.elim
      rename_i d hs
      obtain ⟨hdn, h⟩ := h
      unfold vguard at h
      split at h
      case h_3 => exact h.elim
      case h_2 =>
        rename_i hb
        have hv := hr.tmps.slot d
        rw [hb] at hv
        unfold VR at hv
        obtain ⟨a0, e0, l0⟩ := hv
        have ha0 : a0 = #[] := by unfold VRs at l0; exact Array.toList_eq_nil_iff.1 l0
        subst ha0
        have hw' := wanted_undef hg hs e0
        simp only [wpOps, ho, hw', Bool.false_eq_true, if_false]
        have k1 : RelSt ρ n (s.put o.dst (.tup [])) (a.put o.dst undef) w := ⟨RelT.put hr.tmps hd undef_tup, hr.mem⟩
        exact vops_sound l os _ K hl h ρ _ w k1 hm fun a' w'' ⟨s', ρ'', q1, q2, q3⟩ => hq a' w'' ⟨s', ρ'', q1, q2, q3⟩
      rename_i b hb
      obtain ⟨h1, h2⟩ := h
      have hv := hr.tmps.slot d
      rw [hb] at hv
      unfold VR at hv
      have hw := wanted_some hg hs (by rw [hr.tmps.size]; exact hdn) hv
      by_cases e : b = want
      · exact go (by rw [hw, e]; simp) (h1 e)
      · have hw' : Region.wanted o (yielded ops a.tmps) = false := by rw [hw]; simpa using e
        simp only [wpOps, ho, hw', Bool.false_eq_true, if_false]
        have k1 : RelSt ρ n (s.put o.dst (.tup [])) (a.put o.dst undef) w := ⟨RelT.put hr.tmps hd undef_tup, hr.mem⟩
        exact vops_sound l os _ K hl (h2 e) ρ _ w k1 hm fun a' w'' ⟨s', ρ'', q1, q2, q3⟩ => hq a' w'' ⟨s', ρ'', q1, q2, q3⟩

theorem region_sound {m id : Nat} {ops : Array Oper} {s : St} {K : St → Prop} {Q : Exit → Act → World → Prop} (h : vops P n ops ops.toList s K) (hr : RelSt ρ n s a w) (hm : m ≤ s.H.length) (hq : ∀ a' w', Lift m n ρ s w K a' w' → Q .normal a' w') : (Code.region id ops false).wp P Q a w :=
  wp_region (vops_sound (m := m) (List.range ops.size) ops.toList s K (by
    refine List.ext_getElem? fun i => ?_
    simp only [List.getElem?_map]
    by_cases hi : i < ops.size
    · simp [List.getElem?_range hi, hi]
    · rw [List.getElem?_eq_none (by simp; omega), List.getElem?_eq_none (by simp; omega)]; rfl) h ρ a w hr hm hq)
end
end Go.Vm
end
section
namespace Go.Vm

/-! ### Who has been listed -/
/-- The last of the writers that p lets. -/
def pickW {α : Type} (p : Nat → Bool) : List (Option α) → Nat → α → α
  | [], _, d => d
  | none :: r, i, d => pickW p r (i + 1) d
  | some x :: r, i, d => pickW p r (i + 1) (if p i then x else d)
theorem pickW_congr {α : Type} {p q : Nat → Bool} : ∀ (ws : List (Option α)) (i : Nat) (d : α), (∀ j x, ws[j]? = some (some x) → p (i + j) = q (i + j)) → pickW p ws i d = pickW q ws i d
  | [], _, _, _ => rfl
  | none :: r, i, d, h => pickW_congr r (i + 1) d fun j x hx => by have := h (j + 1) x (by simpa using hx); rwa [show i + (j + 1) = i + 1 + j by omega] at this
  | some x :: r, i, d, h => by
    have h0 : p i = q i := h 0 x rfl
    simp only [pickW, h0]
    exact pickW_congr r (i + 1) _ fun j y hy => by have := h (j + 1) y (by simpa using hy); rwa [show i + (j + 1) = i + 1 + j by omega] at this
theorem pickW_none {α : Type} {p : Nat → Bool} : ∀ (ws : List (Option α)) (i : Nat) (d : α), (∀ j x, ws[j]? = some (some x) → p (i + j) = false) → pickW p ws i d = d
  | [], _, _, _ => rfl
  | none :: r, i, d, h => pickW_none r (i + 1) d fun j x hx => by have := h (j + 1) x (by simpa using hx); rwa [show i + (j + 1) = i + 1 + j by omega] at this
  | some x :: r, i, d, h => by
    have h0 : p i = false := h 0 x rfl
    simp only [pickW, h0, Bool.false_eq_true, if_false]
    exact pickW_none r (i + 1) d fun j y hy => by have := h (j + 1) y (by simpa using hy); rwa [show i + (j + 1) = i + 1 + j by omega] at this
/-- The last one is k. -/
theorem pickW_last {α : Type} {p : Nat → Bool} : ∀ (ws : List (Option α)) (i : Nat) (d : α) (k : Nat) (x : α), ws[k]? = some (some x) → p (i + k) = true → (∀ j y, k < j → ws[j]? = some (some y) → p (i + j) = false) → pickW p ws i d = x
  | [], _, _, _, _, h, _, _ => by simp at h
  | none :: r, i, d, 0, x, h, _, _ => by simp at h
  | none :: r, i, d, k + 1, x, h, hp, hl => pickW_last r (i + 1) d k x (by simpa using h) (by rwa [show i + 1 + k = i + (k + 1) by omega]) fun j y hj hy => by
      have := hl (j + 1) y (by omega) (by simpa using hy); rwa [show i + (j + 1) = i + 1 + j by omega] at this
  | some z :: r, i, d, 0, x, h, hp, hl => by
    simp at h; subst h
    have hp' : p i = true := hp
    simp only [pickW, hp', if_true]
    exact pickW_none r (i + 1) z fun j y hy => by have := hl (j + 1) y (by omega) (by simpa using hy); rwa [show i + (j + 1) = i + 1 + j by omega] at this
  | some z :: r, i, d, k + 1, x, h, hp, hl => by
    simp only [pickW]
    exact pickW_last r (i + 1) _ k x (by simpa using h) (by rwa [show i + 1 + k = i + (k + 1) by omega]) fun j y hj hy => by
      have := hl (j + 1) y (by omega) (by simpa using hy); rwa [show i + (j + 1) = i + 1 + j by omega] at this
theorem pickW_snoc {α : Type} {p : Nat → Bool} : ∀ (ws : List (Option α)) (i : Nat) (d : α) (o : Option α), pickW p (ws ++ [o]) i d = match o with | some x => if p (i + ws.length) then x else pickW p ws i d | none => pickW p ws i d
  | [], i, d, o => by cases o <;> simp [pickW]
  | none :: r, i, d, o => by
    simp only [List.cons_append, pickW, pickW_snoc r (i + 1) d o, List.length_cons]
    rw [show i + 1 + r.length = i + (r.length + 1) by omega]
  | some x :: r, i, d, o => by
    simp only [List.cons_append, pickW, pickW_snoc r (i + 1) _ o, List.length_cons]
    rw [show i + 1 + r.length = i + (r.length + 1) by omega]

/-! ### Who must come ahead of whom -/
def maskOf (o : Oper) (acc : List Nat) : Nat := o.after.toList.foldl (fun s e => if Region.binds .any e then s ||| (1 <<< e.on) ||| acc.getD e.on 0 else s) 0
def befs : List Oper → List Nat → List Nat
  | [], acc => acc
  | o :: r, acc => befs r (acc ++ [maskOf o acc])
theorem befs_get : ∀ (l : List Oper) (acc : List Nat) (j : Nat), j < acc.length → (befs l acc).getD j 0 = acc.getD j 0
  | [], _, _, _ => rfl
  | o :: r, acc, j, h => by
    rw [befs, befs_get r _ j (by simp; omega)]
    simp [List.getD_eq_getElem?_getD, List.getElem?_append_left h]
theorem befs_at : ∀ (l : List Oper) (acc : List Nat) (j : Nat) (o : Oper), l[j]? = some o → (befs l acc).getD (acc.length + j) 0 = maskOf o ((befs l acc).take (acc.length + j))
  | [], _, _, _, h => by simp at h
  | o :: r, acc, 0, o', h => by
    simp at h; subst h
    rw [befs, Nat.add_zero, befs_get r _ _ (by simp)]
    have htake : ∀ (l : List Oper) (acc2 : List Nat) (k : Nat), k ≤ acc2.length → (befs l acc2).take k = acc2.take k := by
      intro l
      induction l with
      | nil => intro _ _ _; rfl
      | cons o l ih => intro acc2 k hk; rw [befs, ih _ _ (by simp; omega), List.take_append_of_le_length hk]
    rw [htake r _ _ (by simp)]
    simp [List.getD_eq_getElem?_getD]
  | o :: r, acc, j + 1, o', h => by
    have ih := befs_at r (acc ++ [maskOf o acc]) j o' (by simpa using h)
    rw [befs]
    simpa [Nat.add_assoc, Nat.add_comm 1 j] using ih
theorem mask_bit (o : Oper) (acc : List Nat) (i : Nat) (h : (maskOf o acc).testBit i = true) : ∃ e ∈ o.after.toList, Region.binds .any e = true ∧ (e.on = i ∨ (acc.getD e.on 0).testBit i = true) := by
  unfold maskOf at h
  have : ∀ (l : List Edge) (s : Nat), (l.foldl (fun s e => if Region.binds .any e then s ||| (1 <<< e.on) ||| acc.getD e.on 0 else s) s).testBit i = true → s.testBit i = true ∨ ∃ e ∈ l, Region.binds .any e = true ∧ (e.on = i ∨ (acc.getD e.on 0).testBit i = true) := by
    intro l
    induction l with
    | nil => intro s h; exact .inl h
    | cons e l ih =>
      intro s h
      rw [List.foldl_cons] at h
      rcases ih _ h with h1 | ⟨e', h1, h2⟩
      · by_cases hb : Region.binds .any e = true
        · rw [if_pos hb] at h1
          simp only [Nat.testBit_or, Bool.or_eq_true] at h1
          rcases h1 with (h1 | h1) | h1
          · exact .inl h1
          · refine .inr ⟨e, by simp, hb, .inl ?_⟩
            rw [Nat.one_shiftLeft, Nat.testBit_two_pow] at h1
            simpa using h1
          · exact .inr ⟨e, by simp, hb, .inr h1⟩
        · rw [if_neg hb] at h1; exact .inl h1
      · exact .inr ⟨e', by simp [h1], h2⟩
  rcases this _ 0 h with h | h
  · simp at h
  · exact h
/-- Whoever is listed has all that must come ahead of it listed. -/
def ClosedL (ops : List Oper) (L : Nat → Bool) : Prop := ∀ j o, ops[j]? = some o → L j = true → ∀ e ∈ o.after.toList, Region.binds .any e = true → L e.on = true
theorem mask_listed {ops : List Oper} {L : Nat → Bool} (hc : ClosedL ops L) : ∀ (j : Nat) (o : Oper), ops[j]? = some o → (∀ e ∈ o.after.toList, Region.binds .any e = true → L e.on = true) → ∀ i, ((befs ops []).getD j 0).testBit i = true → L i = true := by
  intro j
  induction j using Nat.strongRecOn with
  | _ j ih =>
    intro o ho hp i hi
    have hat := befs_at ops [] j o ho
    simp only [List.length_nil, Nat.zero_add] at hat
    rw [hat] at hi
    obtain ⟨e, h1, h2, h3⟩ := mask_bit o _ i hi
    have hl := hp e h1 h2
    rcases h3 with rfl | h3
    · exact hl
    · by_cases hlt : e.on < j
      · have hg : ((befs ops []).take j).getD e.on 0 = (befs ops []).getD e.on 0 := by
          simp [List.getD_eq_getElem?_getD, List.getElem?_take, hlt]
        rw [hg] at h3
        cases ho' : ops[e.on]? with
        | none => rw [List.getElem?_eq_none_iff] at ho'; have := (List.getElem?_eq_some_iff.1 ho).1; omega
        | some o' => exact ih e.on hlt o' ho' (fun e' h4 h5 => hc e.on o' ho' hl e' h4 h5) i h3
      · have : ((befs ops []).take j).getD e.on 0 = 0 := by
          simp [List.getD_eq_getElem?_getD, List.getElem?_take, hlt]
        rw [this] at h3
        simp at h3

/-- The slots that an operation names. -/
def slotsOf (ops : Array Oper) (o : Oper) : List Tmp := o.dst.toList ++ (o.op.operands.toList.filterMap fun | .tmp t => some t | _ => none) ++ (match o.guard with
  | some (j, _) => (guardSlot ops j).toList
  | none => [])
def meets (a b : List Nat) : Bool := a.any fun x => b.contains x
/-- May the two stand in either order? -/
def apartE (ops : Array Oper) (o o' : Oper) (e e' : List Nat × List Nat) : Bool :=
  !(meets o.dst.toList (slotsOf ops o')) && !(meets o'.dst.toList (slotsOf ops o)) && !(meets e.2 (e'.1 ++ e'.2)) && !(meets e'.2 (e.1 ++ e.2))
/-- Each two that may not stand in either order stand in the text's order. 'tr': the blocks that each looks at, and turns. -/
def ordOk (ops : Array Oper) (tr : List (List Nat × List Nat)) : Bool :=
  let b := befs ops.toList []
  let l := ops.toList.zip tr
  l.zipIdx.all fun (x, j) => (x.1.after.toList.all fun e => !(Region.binds .any e) || decide (e.on < j)) && l.zipIdx.all fun (y, i) => !(decide (i < j)) || (b.getD j 0).testBit i || apartE ops y.1 x.1 y.2 x.2

end Go.Vm
end
section
namespace Go.Vm

/-- What one operation did in the text's order. -/
structure Ent where
  run : Bool
  res : Res
def GuardIs (ops : Array Oper) (n : Nat) (o : Oper) (s : St) (b : Bool) : Prop := match o.guard with
  | none => b = true
  | some (j, want) => ∃ d, guardSlot ops j = some d ∧ d < n ∧ ((∃ b', s.get d = .bool b' ∧ (b' == want) = b) ∨ (s.get d = .tup [] ∧ b = false))
def EntOk (P : Program) (n : Nat) (ops : Array Oper) (o : Oper) (s : St) (e : Ent) : Prop :=
  dstOk n o.dst ∧ GuardIs ops n o s e.run ∧ if e.run then OpExec P o s.ev (getH s.H) s.H.length e.res ∧ ∀ x ∈ e.res.old, x.1 < s.H.length else e.res = { v := .tup [] }
def Trace (P : Program) (n : Nat) (ops : Array Oper) : List Oper → St → List Ent → St → Prop
  | [], s, [], s' => s' = s
  | o :: l, s, e :: es, s' => EntOk P n ops o s e ∧ Trace P n ops l (s.after o.dst e.res) es s'
  | _, _, _, _ => False
def foot (s : St) (r : Res) : List Nat × List Nat := (r.fp, r.old.map (·.1) ++ List.range' s.H.length r.news.length)
def foots : List Oper → St → List Ent → List (List Nat × List Nat)
  | o :: l, s, e :: es => foot s e.res :: foots l (s.after o.dst e.res) es
  | _, _, _ => []
/-- The states that are passed through. -/
def stAt (s : St) : List Oper → List Ent → Nat → St
  | _, _, 0 => s
  | o :: l, e :: es, i + 1 => stAt (s.after o.dst e.res) l es i
  | _, _, _ => s

section
variable {P : Program} {n : Nat} {ops : Array Oper}

theorem trace_at : ∀ (l : List Oper) (s : St) (es : List Ent) (s' : St), Trace P n ops l s es s' → es.length = l.length ∧ stAt s l es l.length = s' ∧
    ∀ (i : Nat) o e, l[i]? = some o → es[i]? = some e → EntOk P n ops o (stAt s l es i) e ∧ stAt s l es (i + 1) = (stAt s l es i).after o.dst e.res ∧ (foots l s es)[i]? = some (foot (stAt s l es i) e.res)
  | [], s, [], s', h => ⟨rfl, h.symm, fun i o e ho => by simp at ho⟩
  | [], _, _ :: _, _, h => h.elim
  | _ :: _, _, [], _, h => h.elim
  | o :: l, s, e :: es, s', h => by
    obtain ⟨h1, h2⟩ := h
    obtain ⟨g1, g2, g3⟩ := trace_at l _ es s' h2
    refine ⟨by simp [g1], g2, fun i o' e' ho he => ?_⟩
    cases i with
    | zero =>
      simp at ho he; subst ho; subst he
      refine ⟨h1, ?_, rfl⟩
      cases l <;> cases es <;> rfl
    | succ i =>
      have := g3 i o' e' (by simpa using ho) (by simpa using he)
      simpa [stAt, foots] using this

/-- What an operation writes into a slot. -/
def wSlot (o : Oper) (e : Ent) (t : Nat) : Option V := if o.dst = some t then some e.res.v else none
/-- What it writes into a block. -/
def wBlk (s : St) (e : Ent) (b : Nat) : Option (Option Blk) :=
  if s.H.length ≤ b ∧ b < s.H.length + e.res.news.length then some (e.res.news[b - s.H.length]?).join
  else if b < s.H.length ∧ b ∈ e.res.old.map (·.1) then some (lookOld e.res.old b none) else none
def wsSlot : List Oper → List Ent → Nat → List (Option V)
  | o :: l, e :: es, t => wSlot o e t :: wsSlot l es t
  | _, _, _ => []
def wsBlk (s : St) : List Oper → List Ent → Nat → List (Option (Option Blk))
  | o :: l, e :: es, b => wBlk s e b :: wsBlk (s.after o.dst e.res) l es b
  | _, _, _ => []
theorem wsSlot_get : ∀ (l : List Oper) (es : List Ent) (t i : Nat) (o : Oper) (e : Ent), l[i]? = some o → es[i]? = some e → (wsSlot l es t)[i]? = some (wSlot o e t)
  | [], _, _, _, _, _, h, _ => by simp at h
  | _ :: _, [], _, _, _, _, _, h => by simp at h
  | o :: l, e :: es, t, 0, o', e', h, h' => by simp at h h'; subst h; subst h'; rfl
  | o :: l, e :: es, t, i + 1, o', e', h, h' => by simpa [wsSlot] using wsSlot_get l es t i o' e' (by simpa using h) (by simpa using h')
theorem wsBlk_get : ∀ (l : List Oper) (es : List Ent) (s : St) (b i : Nat) (o : Oper) (e : Ent), l[i]? = some o → es[i]? = some e → (wsBlk s l es b)[i]? = some (wBlk (stAt s l es i) e b)
  | [], _, _, _, _, _, _, h, _ => by simp at h
  | _ :: _, [], _, _, _, _, _, _, h => by simp at h
  | o :: l, e :: es, s, b, 0, o', e', h, h' => by simp at h h'; subst h; subst h'; rfl
  | o :: l, e :: es, s, b, i + 1, o', e', h, h' => by simpa [wsBlk, stAt] using wsBlk_get l es _ b i o' e' (by simpa using h) (by simpa using h')
theorem wsSlot_len : ∀ (l : List Oper) (es : List Ent) (t : Nat), es.length = l.length → (wsSlot l es t).length = l.length
  | [], [], _, _ => rfl
  | [], _ :: _, _, h => by simp at h
  | _ :: _, [], _, h => by simp at h
  | o :: l, e :: es, t, h => by simp [wsSlot, wsSlot_len l es t (by simpa using h)]
theorem wsBlk_len : ∀ (l : List Oper) (es : List Ent) (s : St) (t : Nat), es.length = l.length → (wsBlk s l es t).length = l.length
  | [], [], _, _, _ => rfl
  | [], _ :: _, _, _, h => by simp at h
  | _ :: _, [], _, _, h => by simp at h
  | o :: l, e :: es, s, t, h => by simp [wsBlk, wsBlk_len l es _ t (by simpa using h)]

theorem after_get (s : St) (o : Oper) (e : Ent) (t : Nat) : (s.after o.dst e.res).get t = (wSlot o e t).getD (s.get t) := by
  unfold wSlot St.get St.after putS
  cases o.dst with
  | none => simp
  | some d =>
    by_cases h : d = t
    · subst h; simp [lookS]
    · simp [lookS, h]
theorem lookOld_mem : ∀ (old : List (Nat × Option Blk)) (b : Nat) (d : Option Blk), lookOld old b d = if b ∈ old.map (·.1) then lookOld old b none else d
  | [], _, _ => rfl
  | (i, x) :: r, b, d => by
    by_cases h : b = i
    · subst h; simp [lookOld]
    · simp only [lookOld, if_neg h, List.map_cons, List.mem_cons, h, false_or]
      exact lookOld_mem r b d
theorem after_blk (s : St) (o : Oper) (e : Ent) (b : Nat) : getH (s.after o.dst e.res).H b = (wBlk s e b).getD (getH s.H b) := by
  have hl := length_setOlds s.H e.res.old
  unfold wBlk
  show getH (setOlds s.H e.res.old ++ e.res.news) b = _
  by_cases hb : b < s.H.length
  · rw [if_neg (by omega)]
    have : getH (setOlds s.H e.res.old ++ e.res.news) b = getH (setOlds s.H e.res.old) b := by
      unfold getH; rw [List.getElem?_append_left (by omega)]
    rw [this, get_setOlds s.H e.res.old b hb, lookOld_mem]
    by_cases hm : b ∈ e.res.old.map (·.1)
    · rw [if_pos hm, if_pos ⟨hb, hm⟩]; rfl
    · rw [if_neg hm, if_neg (fun h => hm h.2)]; rfl
  · have : getH (setOlds s.H e.res.old ++ e.res.news) b = (e.res.news[b - s.H.length]?).join := by
      unfold getH; rw [List.getElem?_append_right (by omega), hl]
    rw [this]
    by_cases h2 : b < s.H.length + e.res.news.length
    · rw [if_pos ⟨by omega, h2⟩]; rfl
    · rw [if_neg (by omega), if_neg (fun h => hb h.1), List.getElem?_eq_none (by omega)]
      show none = getH s.H b
      unfold getH; rw [List.getElem?_eq_none (by omega)]; rfl
/-- The state at i is what those ahead of i have written. -/
theorem st_pick {s0 s' : St} {l : List Oper} {es : List Ent} (h : Trace P n ops l s0 es s') : ∀ i, i ≤ l.length → (∀ t, (stAt s0 l es i).get t = pickW (fun j => decide (j < i)) (wsSlot l es t) 0 (s0.get t)) ∧
    (∀ b, getH (stAt s0 l es i).H b = pickW (fun j => decide (j < i)) (wsBlk s0 l es b) 0 (getH s0.H b)) := by
  obtain ⟨hl, _, hat⟩ := trace_at l s0 es s' h
  intro i
  induction i with
  | zero =>
    intro _
    have e0 : stAt s0 l es 0 = s0 := by cases l <;> cases es <;> rfl
    rw [e0]
    exact ⟨fun t => (pickW_none _ 0 _ fun j x _ => by simp).symm, fun b => (pickW_none _ 0 _ fun j x _ => by simp).symm⟩
  | succ i ih =>
    intro hi
    obtain ⟨ih1, ih2⟩ := ih (by omega)
    have ho : l[i]? = some (l[i]'(by omega)) := List.getElem?_eq_getElem _
    have he : es[i]? = some (es[i]'(by omega)) := List.getElem?_eq_getElem _
    obtain ⟨_, h2, _⟩ := hat i _ _ ho he
    rw [h2]
    have key : ∀ {α : Type} (ws : List (Option α)) (d : α) (o : Option α), ws[i]? = some o → o.getD (pickW (fun j => decide (j < i)) ws 0 d) = pickW (fun j => decide (j < i + 1)) ws 0 d := by
      intro α ws d o hw
      cases o with
      | none =>
        refine pickW_congr ws 0 d (fun j x hj => ?_)
        have : j ≠ i := fun e => by subst e; rw [hw] at hj; simp at hj
        simp only [Nat.zero_add]
        rw [Bool.eq_iff_iff]
        simp
        omega
      | some x =>
        refine (pickW_last ws 0 d i x hw (by simp) (fun j y hj _ => ?_)).symm
        simp
        omega
    exact ⟨fun t => by rw [after_get, ih1 t]; exact key _ _ _ (wsSlot_get l es t i _ _ ho he), fun b => by rw [after_blk, ih2 b]; exact key _ _ _ (wsBlk_get l es s0 b i _ _ ho he)⟩
end
end Go.Vm
end
section
namespace Go.Vm
/-- A region that draws its order, whatever the order. -/
def DrawOk (P : Program) (m n : Nat) (id : Nat) (ops : Array Oper) (s : St) (K : St → Prop) : Prop :=
  ∀ (ρ : Nat → Nat × Nat) (a : Act) (w : World) (Q : Exit → Act → World → Prop), RelSt ρ n s a w → m ≤ s.H.length → (∀ a' w', Lift m n ρ s w K a' w' → Q .normal a' w') → (Code.region id ops true).wp P Q a w

section
variable {P : Program} {n : Nat} {ops : Array Oper}

theorem meets_iff {a b : List Nat} : meets a b = true ↔ ∃ x, x ∈ a ∧ x ∈ b := by
  unfold meets
  simp [List.any_eq_true]
theorem ordOk_spec {tr : List (List Nat × List Nat)} (h : ordOk ops tr = true) {j : Nat} {oj : Oper} {fj : List Nat × List Nat} (ho : ops.toList[j]? = some oj) (hf : tr[j]? = some fj) :
    (∀ e ∈ oj.after.toList, Region.binds .any e = true → e.on < j) ∧
    ∀ (i : Nat) oi fi, ops.toList[i]? = some oi → tr[i]? = some fi → i < j → ((befs ops.toList []).getD j 0).testBit i = true ∨ apartE ops oi oj fi fj = true := by
  unfold ordOk at h
  have hz : ∀ (i : Nat) o f, ops.toList[i]? = some o → tr[i]? = some f → ((o, f), i) ∈ (ops.toList.zip tr).zipIdx := fun i o f h1 h2 => by
    rw [List.mem_zipIdx_iff_getElem?]
    rw [List.getElem?_zip_eq_some]
    exact ⟨h1, h2⟩
  simp only [List.all_eq_true] at h
  have h1 := h _ (hz j oj fj ho hf)
  simp only [Bool.and_eq_true, List.all_eq_true] at h1
  refine ⟨fun e he hb => ?_, fun i oi fi hi hfi hlt => ?_⟩
  · have := h1.1 e he
    simpa [hb] using this
  · have := h1.2 _ (hz i oi fi hi hfi)
    simp only [Bool.or_eq_true, Bool.not_eq_true', decide_eq_false_iff_not] at this
    rcases this with (h2 | h2) | h2
    · exact absurd hlt h2
    · exact .inl h2
    · exact .inr h2
theorem apartE_spec {o o' : Oper} {e e' : List Nat × List Nat} (h : apartE ops o o' e e' = true) : (∀ d, o.dst = some d → d ∉ slotsOf ops o') ∧ (∀ d, o'.dst = some d → d ∉ slotsOf ops o) ∧ (∀ b, b ∈ e.2 → b ∉ e'.1 ∧ b ∉ e'.2) ∧ (∀ b, b ∈ e'.2 → b ∉ e.1 ∧ b ∉ e.2) := by
  unfold apartE at h
  simp only [Bool.and_eq_true, Bool.not_eq_true'] at h
  obtain ⟨⟨⟨h1, h2⟩, h3⟩, h4⟩ := h
  have nm : ∀ {a b : List Nat}, meets a b = false → ∀ x, x ∈ a → x ∉ b := fun hm x hx hy => by
    have := meets_iff.2 ⟨x, hx, hy⟩
    rw [hm] at this; cases this
  refine ⟨fun d hd => nm h1 d (by simp [hd]), fun d hd => nm h2 d (by simp [hd]), fun b hb => ?_, fun b hb => ?_⟩
  · have := nm h3 b hb; simp at this; exact this
  · have := nm h4 b hb; simp at this; exact this

theorem wSlot_some {o : Oper} {e : Ent} {t : Nat} {x : V} (h : wSlot o e t = some x) : o.dst = some t ∧ x = e.res.v := by
  unfold wSlot at h
  split at h
  · rename_i hd; injection h with h; exact ⟨hd, h.symm⟩
  · cases h
theorem wBlk_foot {s : St} {e : Ent} {b : Nat} {x : Option Blk} (h : wBlk s e b = some x) : b ∈ (foot s e.res).2 := by
  unfold wBlk at h
  unfold foot
  simp only [List.mem_append, List.mem_range'_1]
  split at h
  · rename_i hc; exact .inr ⟨hc.1, hc.2⟩
  · split at h
    · rename_i hc; exact .inl hc.2
    · cases h

theorem filter_lt {q p : Nat → Bool} : ∀ (l : List Nat), (∀ x ∈ l, q x = true → p x = true) → (∃ x ∈ l, p x = true ∧ q x = false) → (l.filter q).length < (l.filter p).length
  | [], _, h => by obtain ⟨x, hx, _⟩ := h; cases hx
  | y :: l, hs, h => by
    have hle : ∀ (l : List Nat), (∀ x ∈ l, q x = true → p x = true) → (l.filter q).length ≤ (l.filter p).length := by
      intro l
      induction l with
      | nil => intro _; exact Nat.le_refl _
      | cons z l ih =>
        intro h
        have := ih fun x hx => h x (by simp [hx])
        simp only [List.filter_cons]
        by_cases hq : q z = true
        · have hp := h z (by simp) hq
          simp only [hq, hp, if_true, List.length_cons]; omega
        · by_cases hp : p z = true <;> simp only [hq, hp, if_true, if_false, List.length_cons] <;> (try simp) <;> omega
    obtain ⟨x, hx, hp, hq⟩ := h
    simp only [List.filter_cons]
    rcases List.mem_cons.1 hx with rfl | hx
    · simp only [hp, hq, if_true, Bool.false_eq_true, if_false, List.length_cons]
      have := hle l fun x hx => hs x (by simp [hx])
      omega
    · have ih := filter_lt l (fun x hx => hs x (by simp [hx])) ⟨x, hx, hp, hq⟩
      by_cases hqy : q y = true
      · have hpy := hs y (by simp) hqy
        simp only [hqy, hpy, if_true, List.length_cons]; omega
      · by_cases hpy : p y = true <;> simp only [hqy, hpy, if_true, if_false, List.length_cons] <;> (try simp) <;> omega

/-- What is true once the operations of L are done. -/
structure DInv (P : Program) (n : Nat) (ops : Array Oper) (s0 : St) (es : List Ent) (ρ0 : Nat → Nat × Nat) (w0 : World) (L : Nat → Bool) (ρ : Nat → Nat × Nat) (a : Act) (w : World) : Prop where
  closed : ClosedL ops.toList L
  tmps : RelT ρ (fun b => b < s0.H.length ∨ ∃ i e, L i = true ∧ es[i]? = some e ∧ (stAt s0 ops.toList es i).H.length ≤ b ∧ b < (stAt s0 ops.toList es i).H.length + e.res.news.length) w n (fun t => pickW L (wsSlot ops.toList es t) 0 (s0.get t)) a
  mem : MemRel ρ (fun b => b < s0.H.length ∨ ∃ i e, L i = true ∧ es[i]? = some e ∧ (stAt s0 ops.toList es i).H.length ≤ b ∧ b < (stAt s0 ops.toList es i).H.length + e.res.news.length) (fun b => pickW L (wsBlk s0 ops.toList es b) 0 (getH s0.H b)) w
  agree : ∀ b, b < s0.H.length → ρ b = ρ0 b
  frame : Frame ρ0 (getH s0.H) w0 ρ (fun b => pickW L (wsBlk s0 ops.toList es b) 0 (getH s0.H b)) w

theorem len_step {s0 s' : St} {es : List Ent} (ht : Trace P n ops ops.toList s0 es s') : ∀ (i : Nat) o e, ops.toList[i]? = some o → es[i]? = some e → (stAt s0 ops.toList es (i + 1)).H.length = (stAt s0 ops.toList es i).H.length + e.res.news.length := fun i o e ho he => by
  obtain ⟨_, _, hat⟩ := trace_at _ _ _ _ ht
  rw [(hat i o e ho he).2.1]
  simp [St.after, length_setOlds]
theorem len_mono {s0 s' : St} {es : List Ent} (ht : Trace P n ops ops.toList s0 es s') : ∀ (j i : Nat), i ≤ j → j ≤ ops.size → (stAt s0 ops.toList es i).H.length ≤ (stAt s0 ops.toList es j).H.length := by
  obtain ⟨hl, _, _⟩ := trace_at _ _ _ _ ht
  intro j
  induction j with
  | zero => intro i hi _; rw [Nat.le_zero.1 hi]; exact Nat.le_refl _
  | succ j ih =>
    intro i hi hj
    have hj' : j < ops.toList.length := by simp; omega
    have := len_step ht j _ _ (List.getElem?_eq_getElem hj') (List.getElem?_eq_getElem (by omega : j < es.length))
    by_cases e : i = j + 1
    · subst e; exact Nat.le_refl _
    · have := ih i (by omega) (by omega); omega
theorem st_zero (s0 : St) (l : List Oper) (es : List Ent) : stAt s0 l es 0 = s0 := by cases l <;> cases es <;> rfl

set_option maxHeartbeats 1000000 in
theorem draw_main {s0 s' : St} {es : List Ent} (ht : Trace P n ops ops.toList s0 es s') (hok : ordOk ops (foots ops.toList s0 es) = true) {ρ0 : Nat → Nat × Nat} {w0 : World} {Q : Exit → Act → World → Prop} {m : Nat} (hm : m ≤ s0.H.length)
    (hq : ∀ ρ a w, RelSt ρ n s' a w → Step m ρ0 s0 w0 ρ s' w → Q .normal a w) :
    ∀ (fuel : Nat) (listed : Array Bool) (ρ : Nat → Nat × Nat) (a : Act) (w : World), listed.size = ops.size → ((List.range ops.size).filter fun i => !(listed.getD i false)).length ≤ fuel →
      DInv P n ops s0 es ρ0 w0 (fun i => listed.getD i false) ρ a w → wpAny P .any ops Q fuel listed a w := by
  obtain ⟨hl, hfin, hat⟩ := trace_at _ _ _ _ ht
  have hsp := st_pick ht
  have hN : ops.toList.length = ops.size := by simp
  -- nothing is ready: all are done
  have alldone : ∀ (listed : Array Bool), listed.size = ops.size → Region.ready .any ops listed = [] → ∀ i, i < ops.size → listed.getD i false = true := by
    intro listed hls hr i
    induction i using Nat.strongRecOn with
    | _ i ih =>
      intro hi
      cases hc : listed.getD i false with
      | true => rfl
      | false =>
        exfalso
        have hio : ops.toList[i]? = some ops[i] := by simp [hi]
        have hfi := (hat i _ _ hio (List.getElem?_eq_getElem (by omega : i < es.length))).2.2
        have hedge := (ordOk_spec hok hio hfi).1
        have : i ∈ Region.ready .any ops listed := by
          unfold Region.ready
          rw [List.mem_filter]
          refine ⟨by simp [hi], ?_⟩
          have hg : listed.getD i true = false := by
            rw [Array.getD_eq_getD_getElem?] at hc ⊢
            rw [Array.getElem?_eq_getElem (by omega)] at hc ⊢
            simpa using hc
          rw [hg]
          simp only [Bool.not_false, Bool.true_and, Array.getElem?_eq_getElem hi, Option.map_some, Option.getD_some]
          rw [Array.all_eq_true_iff_forall_mem]
          intro e he
          by_cases hb : Region.binds .any e = true
          · have hlt := hedge e (by simpa using he) hb
            rw [ih e.on hlt (by omega)]; simp
          · simp [hb]
        rw [hr] at this
        cases this
  -- then the state is the last one
  have fin : ∀ (listed : Array Bool) ρ a w, listed.size = ops.size → (∀ i, i < ops.size → listed.getD i false = true) → DInv P n ops s0 es ρ0 w0 (fun i => listed.getD i false) ρ a w → Q .normal a w := by
    intro listed ρ a w hls hall hinv
    have hT : ∀ t, pickW (fun i => listed.getD i false) (wsSlot ops.toList es t) 0 (s0.get t) = s'.get t := fun t => by
      rw [← hfin, (hsp _ (Nat.le_refl _)).1 t]
      refine pickW_congr _ 0 _ (fun j x hj => ?_)
      have hlt := (List.getElem?_eq_some_iff.1 hj).1
      rw [wsSlot_len _ _ _ hl] at hlt
      simp only [Nat.zero_add]
      rw [hall j (by omega)]
      simp; omega
    have hG : ∀ b, pickW (fun i => listed.getD i false) (wsBlk s0 ops.toList es b) 0 (getH s0.H b) = getH s'.H b := fun b => by
      rw [← hfin, (hsp _ (Nat.le_refl _)).2 b]
      refine pickW_congr _ 0 _ (fun j x hj => ?_)
      have hlt := (List.getElem?_eq_some_iff.1 hj).1
      rw [wsBlk_len _ _ _ _ hl] at hlt
      simp only [Nat.zero_add]
      rw [hall j (by omega)]
      simp; omega
    have hlen : s0.H.length ≤ s'.H.length := by
      have := len_mono ht ops.size 0 (by omega) (Nat.le_refl _)
      rw [st_zero] at this
      rw [← hfin, hN]; exact this
    have hdom : ∀ b, (b < s0.H.length ∨ ∃ i e, listed.getD i false = true ∧ es[i]? = some e ∧ (stAt s0 ops.toList es i).H.length ≤ b ∧ b < (stAt s0 ops.toList es i).H.length + e.res.news.length) → b < s'.H.length := by
      rintro b (hb | ⟨i, e, _, he, h1, h2⟩)
      · omega
      · have hi : i < es.length := (List.getElem?_eq_some_iff.1 he).1
        have hio : ops.toList[i]? = some (ops.toList[i]'(by omega)) := List.getElem?_eq_getElem _
        have h3 := len_step ht i _ e hio he
        have h4 := len_mono ht ops.size (i + 1) (by omega) (Nat.le_refl _)
        rw [← hfin, hN]; omega
    have hGf : (fun b => pickW (fun i => listed.getD i false) (wsBlk s0 ops.toList es b) 0 (getH s0.H b)) = getH s'.H := funext hG
    refine hq ρ a w ⟨⟨hinv.tmps.size, hinv.tmps.defers, fun t => ?_⟩, ?_⟩ ⟨by omega, fun b hb => hinv.agree b (by omega), ?_⟩
    · have := (hinv.tmps.slot t).mono (fun _ _ => rfl) hdom (Lasts.refl w)
      rw [hT t] at this; exact this
    · have := hinv.mem.monoDom hdom
      rw [hGf] at this; exact this
    · have := hinv.frame
      rw [hGf] at this; exact this
  intro fuel
  induction fuel with
  | zero =>
    intro listed ρ a w hls hf hinv
    have hall : ∀ i, i < ops.size → listed.getD i false = true := fun i hi => by
      have h0 := List.length_eq_zero_iff.1 (Nat.le_zero.1 hf)
      have : i ∉ (List.range ops.size).filter fun i => !(listed.getD i false) := by rw [h0]; simp
      simp only [List.mem_filter, List.mem_range, Bool.not_eq_true', not_and, Bool.not_eq_false] at this
      exact this hi
    refine ⟨?_, fin listed ρ a w hls hall hinv⟩
    refine List.eq_nil_iff_forall_not_mem.2 fun i hi => ?_
    unfold Region.ready at hi
    rw [List.mem_filter] at hi
    obtain ⟨h1, h2⟩ := hi
    have hlt : i < ops.size := by simpa using h1
    have := hall i hlt
    rw [Array.getD_eq_getD_getElem?, Array.getElem?_eq_getElem (by omega)] at this
    simp only [Bool.and_eq_true, Bool.not_eq_true'] at h2
    have h3 := h2.1
    rw [Array.getD_eq_getD_getElem?, Array.getElem?_eq_getElem (by omega)] at h3
    simp at this h3
    rw [this] at h3; cases h3
  | succ fuel ih =>
    intro listed ρ a w hls hf hinv
    refine ⟨fun hr => fin listed ρ a w hls (alldone listed hls hr) hinv, fun i hi => ?_⟩
    unfold Region.ready at hi
    rw [List.mem_filter] at hi
    obtain ⟨h1, h2⟩ := hi
    have hlt : i < ops.size := by simpa using h1
    have hio : ops.toList[i]? = some ops[i] := by simp [hlt]
    have hie : es[i]? = some (es[i]'(by omega)) := List.getElem?_eq_getElem _
    generalize hoi : ops[i] = o at *
    generalize hei : es[i]'(by omega) = e at *
    simp only [Bool.and_eq_true, Bool.not_eq_true'] at h2
    have hnl : listed.getD i false = false := by
      have h3 := h2.1
      rw [Array.getD_eq_getD_getElem?, Array.getElem?_eq_getElem (by omega)] at h3 ⊢
      simpa using h3
    have hpre : ∀ e' ∈ o.after.toList, Region.binds .any e' = true → listed.getD e'.on false = true := fun e' he' hb => by
      have h3 := h2.2
      rw [Array.getElem?_eq_getElem hlt, hoi] at h3
      simp only [Option.map_some, Option.getD_some] at h3
      rw [Array.all_eq_true_iff_forall_mem] at h3
      have := h3 e' (by simpa using he')
      simpa [hb] using this
    obtain ⟨hent, hnext, hfi⟩ := hat i o e hio hie
    obtain ⟨hd, hg, hrun⟩ := hent
    have hordi := (ordOk_spec hok hio hfi).2
    -- whoever meets i: those ahead are done, those behind are not
    have hahead : ∀ j oj ej, j < i → ops.toList[j]? = some oj → es[j]? = some ej → apartE ops oj o (foot (stAt s0 ops.toList es j) ej.res) (foot (stAt s0 ops.toList es i) e.res) = false → listed.getD j false = true := fun j oj ej hj ho he hap => by
      rcases hordi j oj _ ho (hat j oj ej ho he).2.2 hj with hb | hb
      · exact mask_listed hinv.closed i o hio hpre j hb
      · rw [hap] at hb; cases hb
    have hbehind : ∀ j oj ej, i < j → ops.toList[j]? = some oj → es[j]? = some ej → apartE ops o oj (foot (stAt s0 ops.toList es i) e.res) (foot (stAt s0 ops.toList es j) ej.res) = false → listed.getD j false = false := fun j oj ej hj ho he hap => by
      cases hc : listed.getD j false with
      | false => rfl
      | true =>
        exfalso
        rcases (ordOk_spec hok ho (hat j oj ej ho he).2.2).2 i o _ hio hfi hj with hb | hb
        · have := mask_listed hinv.closed j oj ho (fun e' h4 h5 => hinv.closed j oj ho hc e' h4 h5) i hb
          rw [hnl] at this; cases this
        · rw [hap] at hb; cases hb
    have hjget : ∀ j, j < ops.size → ∃ oj ej, ops.toList[j]? = some oj ∧ es[j]? = some ej := fun j hj => ⟨_, _, List.getElem?_eq_getElem (by omega : j < ops.toList.length), List.getElem?_eq_getElem (by omega : j < es.length)⟩
    -- a slot that i names is as it was in the text's order
    have hslot : ∀ t, t ∈ slotsOf ops o → pickW (fun i => listed.getD i false) (wsSlot ops.toList es t) 0 (s0.get t) = (stAt s0 ops.toList es i).get t := fun t hts => by
      rw [(hsp i (by omega)).1 t]
      refine pickW_congr _ 0 _ (fun j x hj => ?_)
      have hjl := (List.getElem?_eq_some_iff.1 hj).1
      rw [wsSlot_len _ _ _ hl] at hjl
      obtain ⟨oj, ej, hoj, hej⟩ := hjget j (by omega)
      rw [wsSlot_get _ _ _ _ _ _ hoj hej] at hj
      injection hj with hj
      have hdst := (wSlot_some hj).1
      simp only [Nat.zero_add]
      rcases Nat.lt_trichotomy j i with hlt' | rfl | hgt
      · rw [hahead j oj ej hlt' hoj hej (by
          cases hap : apartE ops oj o (foot (stAt s0 ops.toList es j) ej.res) (foot (stAt s0 ops.toList es i) e.res) with
          | false => rfl
          | true => exact absurd hts ((apartE_spec hap).1 t hdst))]
        simp [hlt']
      · rw [hnl]; simp
      · rw [hbehind j oj ej hgt hoj hej (by
          cases hap : apartE ops o oj (foot (stAt s0 ops.toList es i) e.res) (foot (stAt s0 ops.toList es j) ej.res) with
          | false => rfl
          | true => exact absurd hts ((apartE_spec hap).2.1 t hdst))]
        simp; omega
    have hfp : ∀ b, b ∈ e.res.fp → pickW (fun i => listed.getD i false) (wsBlk s0 ops.toList es b) 0 (getH s0.H b) = getH (stAt s0 ops.toList es i).H b := fun b hbf => by
      rw [(hsp i (by omega)).2 b]
      refine pickW_congr _ 0 _ (fun j x hj => ?_)
      have hjl := (List.getElem?_eq_some_iff.1 hj).1
      rw [wsBlk_len _ _ _ _ hl] at hjl
      obtain ⟨oj, ej, hoj, hej⟩ := hjget j (by omega)
      rw [wsBlk_get _ _ _ _ _ _ _ hoj hej] at hj
      injection hj with hj
      have hft := wBlk_foot hj
      simp only [Nat.zero_add]
      rcases Nat.lt_trichotomy j i with hlt' | rfl | hgt
      · rw [hahead j oj ej hlt' hoj hej (by
          cases hap : apartE ops oj o (foot (stAt s0 ops.toList es j) ej.res) (foot (stAt s0 ops.toList es i) e.res) with
          | false => rfl
          | true => exact absurd hbf ((apartE_spec hap).2.2.1 b hft).1)]
        simp [hlt']
      · rw [hnl]; simp
      · rw [hbehind j oj ej hgt hoj hej (by
          cases hap : apartE ops o oj (foot (stAt s0 ops.toList es i) e.res) (foot (stAt s0 ops.toList es j) ej.res) with
          | false => rfl
          | true => exact absurd hbf ((apartE_spec hap).2.2.2 b hft).1)]
        simp; omega
    -- what is so behind i
    have hset : ∀ j, (listed.setIfInBounds i true).getD j false = if j = i then true else listed.getD j false := fun j => by
      rw [Array.getD_eq_getD_getElem?, Array.getD_eq_getD_getElem?, Array.getElem?_setIfInBounds]
      by_cases hji : i = j
      · subst hji; simp [hls, hlt]
      · rw [if_neg hji, if_neg (fun x => hji x.symm)]
    have hTnew : ∀ t, pickW (fun i' => (listed.setIfInBounds i true).getD i' false) (wsSlot ops.toList es t) 0 (s0.get t) = if o.dst = some t then e.res.v else pickW (fun i => listed.getD i false) (wsSlot ops.toList es t) 0 (s0.get t) := fun t => by
      by_cases hdt : o.dst = some t
      · rw [if_pos hdt]
        refine pickW_last _ 0 _ i e.res.v (by rw [wsSlot_get _ _ _ _ _ _ hio hie]; unfold wSlot; rw [if_pos hdt]) (by simp only [Nat.zero_add]; rw [hset, if_pos rfl]) (fun j y hj hy => ?_)
        have hjl := (List.getElem?_eq_some_iff.1 hy).1
        rw [wsSlot_len _ _ _ hl] at hjl
        obtain ⟨oj, ej, hoj, hej⟩ := hjget j (by omega)
        rw [wsSlot_get _ _ _ _ _ _ hoj hej] at hy
        injection hy with hy
        have hdst := (wSlot_some hy).1
        simp only [Nat.zero_add]
        rw [hset, if_neg (by omega)]
        refine hbehind j oj ej hj hoj hej ?_
        cases hap : apartE ops o oj (foot (stAt s0 ops.toList es i) e.res) (foot (stAt s0 ops.toList es j) ej.res) with
        | false => rfl
        | true => exact absurd (by unfold slotsOf; simp [hdt] : t ∈ slotsOf ops o) ((apartE_spec hap).2.1 t hdst)
      · rw [if_neg hdt]
        refine pickW_congr _ 0 _ (fun j x hj => ?_)
        simp only [Nat.zero_add]
        rw [hset]
        by_cases hji : j = i
        · subst hji
          rw [wsSlot_get _ _ _ _ _ _ hio hie] at hj
          injection hj with hj
          exact absurd (wSlot_some hj).1 hdt
        · rw [if_neg hji]
    have hGnew : ∀ b, pickW (fun i' => (listed.setIfInBounds i true).getD i' false) (wsBlk s0 ops.toList es b) 0 (getH s0.H b) = (wBlk (stAt s0 ops.toList es i) e b).getD (pickW (fun i => listed.getD i false) (wsBlk s0 ops.toList es b) 0 (getH s0.H b)) := fun b => by
      cases hwb : wBlk (stAt s0 ops.toList es i) e b with
      | some x =>
        refine pickW_last _ 0 _ i x (by rw [wsBlk_get _ _ _ _ _ _ _ hio hie, hwb]) (by simp only [Nat.zero_add]; rw [hset, if_pos rfl]) (fun j y hj hy => ?_)
        have hjl := (List.getElem?_eq_some_iff.1 hy).1
        rw [wsBlk_len _ _ _ _ hl] at hjl
        obtain ⟨oj, ej, hoj, hej⟩ := hjget j (by omega)
        rw [wsBlk_get _ _ _ _ _ _ _ hoj hej] at hy
        injection hy with hy
        have hft := wBlk_foot hy
        have hft0 := wBlk_foot hwb
        simp only [Nat.zero_add]
        rw [hset, if_neg (by omega)]
        refine hbehind j oj ej hj hoj hej ?_
        cases hap : apartE ops o oj (foot (stAt s0 ops.toList es i) e.res) (foot (stAt s0 ops.toList es j) ej.res) with
        | false => rfl
        | true => exact absurd hft0 ((apartE_spec hap).2.2.2 b hft).2
      | none =>
        refine pickW_congr _ 0 _ (fun j x hj => ?_)
        simp only [Nat.zero_add]
        rw [hset]
        by_cases hji : j = i
        · subst hji
          rw [wsBlk_get _ _ _ _ _ _ _ hio hie, hwb] at hj
          cases hj
        · rw [if_neg hji]
    have hclosed : ClosedL ops.toList fun i' => (listed.setIfInBounds i true).getD i' false := fun j oj hj hlj e' he' hb => by
      simp only [hset] at hlj ⊢
      by_cases hji : j = i
      · subst hji
        rw [hio] at hj; injection hj with hj; subst hj
        by_cases hei' : e'.on = j
        · rw [if_pos hei']
        · rw [if_neg hei']; exact hpre e' he' hb
      · rw [if_neg hji] at hlj
        by_cases hei' : e'.on = i
        · rw [if_pos hei']
        · rw [if_neg hei']; exact hinv.closed j oj hj hlj e' he' hb
    have hfuel : ((List.range ops.size).filter fun i' => !((listed.setIfInBounds i true).getD i' false)).length ≤ fuel := by
      have : ((List.range ops.size).filter fun i' => !((listed.setIfInBounds i true).getD i' false)).length < ((List.range ops.size).filter fun i => !(listed.getD i false)).length := by
        refine filter_lt _ (fun x hx hq => ?_) ⟨i, by simp [hlt], by simp only [hnl]; rfl, by simp only [hset]; rfl⟩
        simp only [hset] at hq
        by_cases hxi : x = i
        · rw [if_pos hxi] at hq; simp at hq
        · rw [if_neg hxi] at hq; exact hq
      omega
    -- the new numbers are new
    have hfresh : ∀ b, (stAt s0 ops.toList es i).H.length ≤ b → b < (stAt s0 ops.toList es i).H.length + e.res.news.length → ¬ (b < s0.H.length ∨ ∃ i e, listed.getD i false = true ∧ es[i]? = some e ∧ (stAt s0 ops.toList es i).H.length ≤ b ∧ b < (stAt s0 ops.toList es i).H.length + e.res.news.length) := by
      rintro b hb1 hb2 (hb | ⟨j, ej, hlj, hej, h3, h4⟩)
      · have := len_mono ht i 0 (by omega) (by omega)
        rw [st_zero] at this; omega
      · have hjl : j < es.length := (List.getElem?_eq_some_iff.1 hej).1
        have hoj : ops.toList[j]? = some (ops.toList[j]'(by omega)) := List.getElem?_eq_getElem _
        have h5 := len_step ht j _ ej hoj hej
        have h6 := len_step ht i o e hio hie
        rcases Nat.lt_trichotomy j i with hlt' | rfl | hgt
        · have := len_mono ht i (j + 1) (by omega) (by omega); omega
        · rw [hnl] at hlj; cases hlj
        · have := len_mono ht j (i + 1) (by omega) (by omega); omega
    have hdomsub : ∀ b, (b < s0.H.length ∨ ∃ i e, listed.getD i false = true ∧ es[i]? = some e ∧ (stAt s0 ops.toList es i).H.length ≤ b ∧ b < (stAt s0 ops.toList es i).H.length + e.res.news.length) →
        (b < s0.H.length ∨ ∃ i' e, (listed.setIfInBounds i true).getD i' false = true ∧ es[i']? = some e ∧ (stAt s0 ops.toList es i').H.length ≤ b ∧ b < (stAt s0 ops.toList es i').H.length + e.res.news.length) := by
      rintro b (hb | ⟨j, ej, hlj, hej, h3⟩)
      · exact .inl hb
      · exact .inr ⟨j, ej, by rw [hset]; split; rfl; exact hlj, hej, h3⟩
    have hdomnew : ∀ b, domWith (fun b => b < s0.H.length ∨ ∃ i e, listed.getD i false = true ∧ es[i]? = some e ∧ (stAt s0 ops.toList es i).H.length ≤ b ∧ b < (stAt s0 ops.toList es i).H.length + e.res.news.length) (stAt s0 ops.toList es i).H.length e.res.news.length b →
        (b < s0.H.length ∨ ∃ i' e, (listed.setIfInBounds i true).getD i' false = true ∧ es[i']? = some e ∧ (stAt s0 ops.toList es i').H.length ≤ b ∧ b < (stAt s0 ops.toList es i').H.length + e.res.news.length) := by
      rintro b (hb | hb)
      · exact hdomsub b hb
      · exact .inr ⟨i, e, by rw [hset, if_pos rfl], hie, hb.1, hb.2⟩
    have hopsi : ops[i]? = some o := by rw [Array.getElem?_eq_getElem hlt, hoi]
    have hwant : Region.wanted o (yielded ops a.tmps) = e.run := by
      unfold GuardIs at hg
      cases hgd : o.guard with
      | none => rw [hgd] at hg; simp only at hg; unfold Region.wanted; rw [hgd, hg]
      | some jw =>
        obtain ⟨jj, want⟩ := jw
        rw [hgd] at hg
        simp only at hg
        obtain ⟨d, g1, g2, g5⟩ := hg
        have hv := hinv.tmps.slot d
        rcases g5 with ⟨b', g3, g4⟩ | ⟨g3, g4⟩
        · rw [hslot d (by unfold slotsOf; rw [hgd]; simp [g1]), g3] at hv
          unfold VR at hv
          rw [wanted_some hgd g1 (by rw [hinv.tmps.size]; exact g2) hv, g4]
        · rw [hslot d (by unfold slotsOf; rw [hgd]; simp [g1]), g3] at hv
          unfold VR at hv
          obtain ⟨a0, e0, l0⟩ := hv
          have ha0 : a0 = #[] := by unfold VRs at l0; exact Array.toList_eq_nil_iff.1 l0
          subst ha0
          rw [wanted_undef hgd g1 e0, g4]
    unfold wpOp
    rw [hopsi]
    simp only [hwant]
    cases hr : e.run with
    | false =>
      rw [hr] at hrun
      simp only [Bool.false_eq_true, if_false] at hrun ⊢
      have hwn : ∀ b, wBlk (stAt s0 ops.toList es i) e b = none := fun b => by
        unfold wBlk; rw [hrun]; simp
      refine ih _ ρ _ w (by simpa using hls) hfuel ⟨hclosed, ⟨by simpa [Act.put] using (show (a.put o.dst undef).tmps.size = n by cases o.dst <;> simp [Act.put, hinv.tmps.size]), by cases o.dst <;> exact hinv.tmps.defers, fun t => ?_⟩, ?_, hinv.agree, ?_⟩
      · rw [hTnew]
        cases hdd : o.dst with
        | none => simp only [reduceCtorEq, if_false, Act.put]; exact (hinv.tmps.slot t).mono (fun _ _ => rfl) hdomsub (Lasts.refl w)
        | some d =>
          have hdn : d < a.tmps.size := by rw [hinv.tmps.size]; rw [hdd] at hd; exact hd
          rw [put_tmps a d undef t hdn]
          by_cases hdt : d = t
          · subst hdt; rw [if_pos rfl, if_pos rfl, hrun]; exact undef_tup
          · rw [if_neg hdt, if_neg (by simpa using hdt)]; exact (hinv.tmps.slot t).mono (fun _ _ => rfl) hdomsub (Lasts.refl w)
      · have := hinv.mem.monoDom hdomsub
        refine this.less fun b B hB => ?_
        rw [hGnew, hwn] at hB; exact hB
      · refine hinv.frame.less fun b B hB hro => ⟨b, B, ?_, hro, rfl⟩
        rw [hGnew, hwn] at hB; exact hB
    | true =>
      rw [hr] at hrun
      simp only [if_true] at hrun ⊢
      obtain ⟨hx, hold⟩ := hrun
      have hevs : ∀ x ∈ o.op.operands.toList, VR ρ (fun b => b < s0.H.length ∨ ∃ i e, listed.getD i false = true ∧ es[i]? = some e ∧ (stAt s0 ops.toList es i).H.length ≤ b ∧ b < (stAt s0 ops.toList es i).H.length + e.res.news.length) w ((stAt s0 ops.toList es i).ev x) (a.eval x) := fun x hxm => by
        cases x with
        | tmp t =>
          have hv := hinv.tmps.slot t
          rw [hslot t (by unfold slotsOf; simp only [List.mem_append, List.mem_filterMap]; exact .inl (.inr ⟨_, hxm, rfl⟩))] at hv
          exact hv
        | const v => exact ofValue_sound v
        | global g => show VR _ _ _ .junk _; unfold VR; trivial
        | func f => show VR _ _ _ (.fn f [] []) _; unfold VR; exact ⟨#[], #[], rfl, VRs.nil, VRs.nil⟩
      refine .inl (hx ρ _ _ w a _ Q hevs hinv.mem hfp hfresh ?_)
      intro ρ' w' r k1 k2 k3 k4
      have hle : ∀ b B, pickW (fun i' => (listed.setIfInBounds i true).getD i' false) (wsBlk s0 ops.toList es b) 0 (getH s0.H b) = some B → upd (fun b => pickW (fun i => listed.getD i false) (wsBlk s0 ops.toList es b) 0 (getH s0.H b)) e.res.old (stAt s0 ops.toList es i).H.length e.res.news b = some B := fun b B hB => by
        rw [hGnew] at hB
        unfold wBlk at hB
        unfold upd
        by_cases hc : (stAt s0 ops.toList es i).H.length ≤ b ∧ b < (stAt s0 ops.toList es i).H.length + e.res.news.length
        · rw [if_pos hc] at hB ⊢; exact hB
        · rw [if_neg hc] at hB ⊢
          rw [lookOld_mem]
          by_cases hmem : b ∈ e.res.old.map (·.1)
          · have hbl : b < (stAt s0 ops.toList es i).H.length := by
              obtain ⟨x, hx1, hx2⟩ := List.mem_map.1 hmem
              rw [← hx2]; exact hold x hx1
            rw [if_pos ⟨hbl, hmem⟩] at hB
            rw [if_pos hmem]; exact hB
          · rw [if_neg (fun h => hmem h.2)] at hB
            rw [if_neg hmem]; exact hB
      refine ih _ ρ' _ w' (by simpa using hls) hfuel ⟨hclosed, ⟨by cases o.dst <;> simp [Act.put, hinv.tmps.size], by cases o.dst <;> exact hinv.tmps.defers, fun t => ?_⟩, (k2.less hle).monoDom hdomnew, fun b hb => (k1 b (.inl hb)).trans (hinv.agree b hb), ?_⟩
      · rw [hTnew]
        cases hdd : o.dst with
        | none => simp only [reduceCtorEq, if_false, Act.put]; exact (hinv.tmps.slot t).mono k1 hdomsub k4.lasts
        | some d =>
          have hdn : d < a.tmps.size := by rw [hinv.tmps.size]; rw [hdd] at hd; exact hd
          rw [put_tmps a d r t hdn]
          by_cases hdt : d = t
          · subst hdt; rw [if_pos rfl, if_pos rfl]; exact k3.mono (fun _ _ => rfl) hdomnew (Lasts.refl w')
          · rw [if_neg hdt, if_neg (by simpa using hdt)]; exact (hinv.tmps.slot t).mono k1 hdomsub k4.lasts
      · exact (hinv.frame.trans k4).less fun b B hB hro => ⟨b, B, hle b B hB, hro, rfl⟩

/-- A region that draws its order comes to what it comes to in the text's order. -/
theorem draw_sound {m id : Nat} {s s' : St} {es : List Ent} {K : St → Prop} (hmix : P.follows .mixedOrders = true) (ht : Trace P n ops ops.toList s es s') (hok : ordOk ops (foots ops.toList s es) = true) (hk : K s') : DrawOk P m n id ops s K := by
  intro ρ a w Q hr hm hq
  refine wp_region_any hmix ?_
  obtain ⟨hl, _, _⟩ := trace_at _ _ _ _ ht
  have hal : Alike w { w with drawn := w.drawn + 1 } := Alike.drew w
  have hf0 : ∀ i, (Array.replicate ops.size false).getD i false = false := fun i => by
    rw [Array.getD_eq_getD_getElem?, Array.getElem?_replicate]; split <;> rfl
  have hT : ∀ t, pickW (fun i => (Array.replicate ops.size false).getD i false) (wsSlot ops.toList es t) 0 (s.get t) = s.get t := fun t => pickW_none _ 0 _ fun j x _ => hf0 _
  have hG : (fun b => pickW (fun i => (Array.replicate ops.size false).getD i false) (wsBlk s ops.toList es b) 0 (getH s.H b)) = getH s.H := funext fun b => pickW_none _ 0 _ fun j x _ => hf0 _
  refine draw_main ht hok (ρ0 := ρ) (w0 := w) hm (fun ρ' a' w' h1 h2 => hq a' w' ⟨s', ρ', hk, h1, h2⟩) _ _ ρ a _ (by simp) (Nat.le_trans (List.length_filter_le _ _) (by simp)) ⟨(fun j o _ hj => by rw [hf0] at hj; cases hj), ⟨hr.tmps.size, hr.tmps.defers, fun t => ?_⟩, ?_, fun _ _ => rfl, ?_⟩
  · rw [hT]
    exact (hr.tmps.slot t).mono (fun _ _ => rfl) (fun b hb => .inl hb) hal.lasts
  · rw [hG]
    exact (hr.mem.alike hal).monoDom fun b hb => .inl hb
  · rw [hG]
    exact Frame.alike hal

/-- Its operations in the text's order; at the end a look at who must come ahead of whom. -/
def vdraw (P : Program) (n : Nat) (ops : Array Oper) (K : St → Prop) : List Oper → List (List Nat × List Nat) → St → Prop
  | [], tr, s => ordOk ops tr = true ∧ K s
  | o :: l, tr, s => dstOk n o.dst ∧ match o.guard with
    | none => vexec P o.op s (hold fun res => (∀ x ∈ res.old, x.1 < s.H.length) ∧ vdraw P n ops K l (tr ++ [foot s res]) (s.after o.dst res))
    | some (j, want) => match guardSlot ops j with
      | some d => d < n ∧ vguard (s.get d) want (vexec P o.op s (hold fun res => (∀ x ∈ res.old, x.1 < s.H.length) ∧ vdraw P n ops K l (tr ++ [foot s res]) (s.after o.dst res))) (vdraw P n ops K l (tr ++ [([], [])]) (s.put o.dst (.tup [])))
      | none => False
theorem vdraw_trace {K : St → Prop} : ∀ (l : List Oper) (tr : List (List Nat × List Nat)) (s : St), vdraw P n ops K l tr s → ∃ es s', Trace P n ops l s es s' ∧ ordOk ops (tr ++ foots l s es) = true ∧ K s'
  | [], tr, s, h => ⟨[], s, rfl, by simpa [foots] using h.1, h.2⟩
  | o :: l, tr, s, h => by
    obtain ⟨hd, h⟩ := h
    have go : GuardIs ops n o s true → (vexec P o.op s fun res => (∀ x ∈ res.old, x.1 < s.H.length) ∧ vdraw P n ops K l (tr ++ [foot s res]) (s.after o.dst res)) → ∃ es s', Trace P n ops (o :: l) s es s' ∧ ordOk ops (tr ++ foots (o :: l) s es) = true ∧ K s' := fun hg hx => by
      obtain ⟨res, h1, h2, h3⟩ := vexec_sound hx
      obtain ⟨es, s', g1, g2, g3⟩ := vdraw_trace l _ _ h3
      refine ⟨⟨true, res⟩ :: es, s', ⟨⟨hd, hg, by simp only [if_true]; exact ⟨h1, h2⟩⟩, g1⟩, ?_, g3⟩
      simpa [foots] using g2
    cases hg : o.guard with
    | none => rw [hg] at h; exact go (by unfold GuardIs; rw [hg]) h
    | some g =>
      obtain ⟨j, want⟩ := g
      rw [hg] at h
      simp only at h
      split at h
      case h_2 => exact h.elim
      rename_i d hs
      obtain ⟨hdn, h⟩ := h
      unfold vguard at h
      have hput : s.after o.dst { v := .tup [] } = s.put o.dst (.tup []) := by unfold St.after St.put setOlds; simp
      split at h
      case h_3 => exact h.elim
      case h_2 =>
        rename_i hb
        obtain ⟨es, s', g1, g2, g3⟩ := vdraw_trace l _ _ h
        refine ⟨⟨false, { v := .tup [] }⟩ :: es, s', ⟨⟨hd, by unfold GuardIs; rw [hg]; exact ⟨d, hs, hdn, .inr ⟨hb, rfl⟩⟩, rfl⟩, by rw [hput]; exact g1⟩, ?_, g3⟩
        simp only [foots, hput]
        simpa [foot] using g2
      rename_i b hb
      obtain ⟨h1, h2⟩ := h
      by_cases e : b = want
      · exact go (by unfold GuardIs; rw [hg]; exact ⟨d, hs, hdn, .inl ⟨b, hb, by rw [e]; simp⟩⟩) (h1 e)
      · obtain ⟨es, s', g1, g2, g3⟩ := vdraw_trace l _ _ (h2 e)
        refine ⟨⟨false, { v := .tup [] }⟩ :: es, s', ⟨⟨hd, by unfold GuardIs; rw [hg]; exact ⟨d, hs, hdn, .inl ⟨b, hb, by simpa using e⟩⟩, rfl⟩, by rw [hput]; exact g1⟩, ?_, g3⟩
        simp only [foots, hput]
        simpa [foot] using g2
theorem vdraw_sound {m id : Nat} {s : St} {K : St → Prop} (hmix : P.follows .mixedOrders = true) (h : vdraw P n ops K ops.toList [] s) : DrawOk P m n id ops s K := by
  obtain ⟨es, s', h1, h2, h3⟩ := vdraw_trace _ _ _ h
  exact draw_sound hmix h1 (by simpa using h2) h3
end
end Go.Vm
end
section
namespace Go.Vm
section
variable {ρ ρ' : Nat → Nat × Nat} {dom dom' : Nat → Prop} {P : Program} {w w' : World} {n : Nat} {a : Act}

/-- s' says no more than s. -/
def Weak (m n : Nat) (s s' : St) : Prop := ∀ (ρ : Nat → Nat × Nat) (a : Act) (w : World), RelSt ρ n s a w → m ≤ s.H.length → ∃ ρ', RelSt ρ' n s' a w ∧ Step m ρ s w ρ' s' w
theorem Weak.refl (m n : Nat) (s : St) : Weak m n s s := fun ρ _ _ h hm => ⟨ρ, h, Step.refl hm⟩
theorem Weak.trans {m n : Nat} {s s' s'' : St} (h : Weak m n s s') (k : Weak m n s' s'') : Weak m n s s'' := fun ρ a w hr hm => by
  obtain ⟨ρ1, h1, h2⟩ := h ρ a w hr hm
  obtain ⟨ρ2, h3, h4⟩ := k ρ1 a w h1 h2.1
  exact ⟨ρ2, h3, h2.trans h4⟩
/-- Slots are forgotten, blocks are forgotten, none is moved. -/
theorem Weak.drop {m n : Nat} {s s' : St} (ht : ∀ p ∈ s'.t, p.2 = s.get p.1) (hl : s'.H.length = s.H.length) (hH : ∀ b B, getH s'.H b = some B → getH s.H b = some B) : Weak m n s s' := fun ρ a w hr hm => by
  refine ⟨ρ, ⟨⟨hr.tmps.size, hr.tmps.defers, fun t => ?_⟩, (hr.mem.less hH).monoDom (fun b hb => by rw [hl]; exact hb)⟩, by rw [hl]; exact hm, fun _ _ => rfl, ?_⟩
  · have : ∀ (l : List (Nat × V)), (∀ p ∈ l, p.2 = s.get p.1) → VR ρ (· < s.H.length) w (lookS l t) (a.tmps.getD t undef) := by
      intro l
      induction l with
      | nil => intro _; show VR _ _ _ .junk _; unfold VR; trivial
      | cons p l ih =>
        intro h
        simp only [lookS]
        split
        · rename_i e
          rw [h p (by simp), e]
          exact hr.tmps.slot t
        · exact ih fun q hq => h q (by simp [hq])
    rw [hl]
    exact this s'.t ht
  · exact (Frame.refl ρ (getH s.H) w).less fun b B hB hro => ⟨b, B, hH b B hB, hro, rfl⟩

def seqQ (K : St → Prop) (Q : Exit → St → Prop) : Exit → St → Prop
  | .normal, s => K s
  | e, s => Q e s
def blockQ (id : Nat) (Q : Exit → St → Prop) : Exit → St → Prop
  | .exit i, s => if i = id then Q .normal s else Q (.exit i) s
  | e, s => Q e s
def okExit : Exit → Prop
  | .panic _ | .outgrown | .goto _ => False
  | _ => True

theorem wp_loop_ix {c : Code} {a : Act} {w : World} {Q : Exit → Act → World → Prop} (R : Nat → Act → World → Prop) {k0 : Nat} (h0 : R k0 a w)
    (round : ∀ k a w, R k a w → c.wp P (Exit.then (fun a' w' => ∃ k', k' < k ∧ R k' a' w') Q) a w) : (Code.loop c).wp P Q a w := by
  intro b k cs
  have key : ∀ n a w, R n a w → ∃ e a' w', Q e a' w' ∧ Arrives P (lone (b.at a (.code c :: .inLoop c :: k)) cs w) b k cs e a' w' := by
    intro n
    induction n using Nat.strongRecOn with
    | _ n ih =>
      intro a w hI
      obtain ⟨e, a₁, w₁, hq, harr⟩ := round n a w hI b (.inLoop c :: k) cs
      cases e with
      | normal =>
        obtain ⟨k', hlt, hI₁⟩ := hq
        obtain ⟨e₂, a₂, w₂, hq₂, harr₂⟩ := ih k' hlt a₁ w₁ hI₁
        exact ⟨e₂, a₂, w₂, hq₂, .of_steps (Steps.trans harr (.one step_inLoop)) harr₂⟩
      | exit id => exact ⟨_, a₁, w₁, hq, .pass (x := .inLoop c) rfl (fun _ _ => .inl (by simp)) harr⟩
      | goto l => exact ⟨_, a₁, w₁, hq, .pass (x := .inLoop c) rfl (fun _ _ => .inl (by simp)) harr⟩
      | ret => exact ⟨_, a₁, w₁, hq, .pass (x := .inLoop c) rfl (fun _ _ => .inl (by simp)) harr⟩
      | panic ch => exact ⟨_, a₁, w₁, hq, .pass (x := .inLoop c) rfl (fun _ _ => .inl (by simp)) harr⟩
      | outgrown => exact ⟨_, a₁, w₁, hq, .pass (x := .inLoop c) rfl (fun _ _ => .inl (by simp)) harr⟩
  obtain ⟨e, a', w', hq, harr⟩ := key _ a w h0
  exact ⟨e, a', w', hq, .of_steps (.one step_loop) harr⟩

/-- A round's end: something smaller, told again. -/
def again (m n : Nat) (I : Nat → St → Prop) (k : Nat) (s' : St) : Prop := ∃ k' s'', k' < k ∧ Weak m n s' s'' ∧ I k' s''
/-- A loop: a relation I that each round keeps, and a number that goes down. -/
def vloop (m n : Nat) (body : (Exit → St → Prop) → St → Prop) (Q : Exit → St → Prop) (s : St) : Prop :=
  ∃ I : Nat → St → Prop, (∃ k s0, Weak m n s s0 ∧ I k s0) ∧ ∀ k s, I k s → m ≤ s.H.length → body (seqQ (again m n I k) Q) s
@[congr] theorem vloop_congr {m n : Nat} {body : (Exit → St → Prop) → St → Prop} {Q : Exit → St → Prop} {s s' : St} (h : s = s') : vloop m n body Q s = vloop m n body Q s' := by rw [h]
@[congr] theorem seqQ_congr {K : St → Prop} {Q : Exit → St → Prop} {e : Exit} {s s' : St} (h : s = s') : seqQ K Q e s = seqQ K Q e s' := by rw [h]
@[congr] theorem blockQ_congr {id : Nat} {Q : Exit → St → Prop} {e : Exit} {s s' : St} (h : s = s') : blockQ id Q e s = blockQ id Q e s' := by rw [h]
/-- A test. -/
def vcond (v : V) (X Y : Prop) : Prop := match v with
  | .bool b => (b = true → X) ∧ (b = false → Y)
  | _ => False
/-- What must be shown of a piece of code, begun in s, so that it ends as Q says. -/
def vc (P : Program) (m n : Nat) : Code → (Exit → St → Prop) → St → Prop
  | .skip, Q, s => Q .normal s
  | .label _, Q, s => Q .normal s
  | .region id ops draw, Q, s => match draw with
    | true => vdraw P n ops (Q .normal) ops.toList [] s
    | false => vops P n ops ops.toList s (Q .normal)
  | .seq x y, Q, s => vc P m n x (seqQ (vc P m n y Q) Q) s
  | .cond c x y, Q, s => vcond (s.ev c) (vc P m n x Q s) (vc P m n y Q s)
  | .block id c, Q, s => vc P m n c (blockQ id Q) s
  | .loop c, Q, s => vloop m n (vc P m n c) Q s
  | .exit id, Q, s => Q (.exit id) s
  | .ret, Q, s => Q .ret s
  | .scope _, _, _ => False
  | .goto _, _, _ => False
  | .rangeFunc _ _ _ _, _, _ => False
  | .refuse _, _, _ => False

@[congr] theorem vc_congr {P : Program} {m n : Nat} {c : Code} {Q : Exit → St → Prop} {s s' : St} (h : s = s') : vc P m n c Q s = vc P m n c Q s' := by rw [h]

/-- The machine's words for 'ends as Q says'. -/
def LiftE (m n : Nat) (ρ : Nat → Nat × Nat) (s : St) (w : World) (Q : Exit → St → Prop) (e : Exit) (a' : Act) (w' : World) : Prop := ∃ s' ρ', Q e s' ∧ RelSt ρ' n s' a' w' ∧ Step m ρ s w ρ' s' w'

theorem vc_sound (hmix : P.follows .mixedOrders = true) {m : Nat} : ∀ (c : Code) (Q : Exit → St → Prop) (s : St), vc P m n c Q s → ∀ (ρ : Nat → Nat × Nat) (a : Act) (w : World), RelSt ρ n s a w → m ≤ s.H.length → c.wp P (LiftE m n ρ s w Q) a w
  | .skip, Q, s, h, ρ, a, w, hr, hm => wp_skip ⟨s, ρ, h, hr, Step.refl hm⟩
  | .label _, Q, s, h, ρ, a, w, hr, hm => wp_label ⟨s, ρ, h, hr, Step.refl hm⟩
  | .region id ops true, Q, s, h, ρ, a, w, hr, hm => vdraw_sound (id := id) hmix h ρ a w _ hr hm fun _ _ ⟨s', ρ', q1, q2, q3⟩ => ⟨s', ρ', q1, q2, q3⟩
  | .region id ops false, Q, s, h, ρ, a, w, hr, hm => region_sound h hr hm fun _ _ ⟨s', ρ', q1, q2, q3⟩ => ⟨s', ρ', q1, q2, q3⟩
  | .seq x y, Q, s, h, ρ, a, w, hr, hm => by
    refine wp_seq (wp_mono (vc_sound hmix x _ s h ρ a w hr hm) ?_)
    rintro e a' w' ⟨s', ρ', q1, q2, q3⟩
    cases e
    case normal => exact wp_mono (vc_sound hmix y Q s' q1 ρ' a' w' q2 q3.1) fun e a'' w'' ⟨s'', ρ'', r1, r2, r3⟩ => ⟨s'', ρ'', r1, r2, q3.trans r3⟩
    all_goals exact ⟨s', ρ', q1, q2, q3⟩
  | .cond c x y, Q, s, h, ρ, a, w, hr, hm => by
    simp only [vc, vcond] at h
    split at h
    case h_2 => exact h.elim
    rename_i b hb
    have hv := hr.tmps.eval c
    rw [hb] at hv
    unfold VR at hv
    exact wp_cond_split hv (fun ht => vc_sound hmix x Q s (h.1 ht) ρ a w hr hm) (fun hf => vc_sound hmix y Q s (h.2 hf) ρ a w hr hm)
  | .block id c, Q, s, h, ρ, a, w, hr, hm => by
    refine wp_block (wp_mono (vc_sound hmix c _ s h ρ a w hr hm) ?_)
    rintro e a' w' ⟨s', ρ', q1, q2, q3⟩
    cases e
    case exit i =>
      simp only [blockQ] at q1
      simp only [Exit.inBlock]
      split at q1
      · rename_i e; rw [if_pos e]; exact ⟨s', ρ', q1, q2, q3⟩
      · rename_i e; rw [if_neg e]; exact ⟨s', ρ', q1, q2, q3⟩
    all_goals exact ⟨s', ρ', q1, q2, q3⟩
  | .loop c, Q, s, h, ρ, a, w, hr, hm => by
    obtain ⟨I, ⟨k0, s0, hw0, hi0⟩, round⟩ := h
    obtain ⟨ρ0, hr0, hs0⟩ := hw0 ρ a w hr hm
    refine wp_loop_ix (fun k a1 w1 => ∃ s1 ρ1, I k s1 ∧ RelSt ρ1 n s1 a1 w1 ∧ Step m ρ s w ρ1 s1 w1) (k0 := k0) ⟨s0, ρ0, hi0, hr0, hs0⟩ ?_
    rintro k a1 w1 ⟨s1, ρ1, hi, hr1, hs1⟩
    refine wp_mono (vc_sound hmix c _ s1 (round k s1 hi hs1.1) ρ1 a1 w1 hr1 hs1.1) ?_
    rintro e a2 w2 ⟨s2, ρ2, q1, q2, q3⟩
    cases e
    case normal =>
      obtain ⟨k', s3, hk, hw, hi'⟩ := q1
      obtain ⟨ρ3, hr3, hs3⟩ := hw ρ2 a2 w2 q2 q3.1
      exact ⟨k', hk, s3, ρ3, hi', hr3, (hs1.trans q3).trans hs3⟩
    all_goals exact ⟨s2, ρ2, q1, q2, hs1.trans q3⟩
  | .exit id, Q, s, h, ρ, a, w, hr, hm => wp_exit ⟨s, ρ, h, hr, Step.refl hm⟩
  | .ret, Q, s, h, ρ, a, w, hr, hm => wp_ret ⟨s, ρ, h, hr, Step.refl hm⟩
  | .scope _, _, _, h, _, _, _, _, _ => h.elim
  | .goto _, _, _, h, _, _, _, _, _ => h.elim
  | .rangeFunc _ _ _ _, _, _, h, _, _, _, _, _ => h.elim
  | .refuse _, _, _, h, _, _, _, _, _ => h.elim
theorem vthen_mono {r : Option Res} {K K' : Res → Prop} (h : ∀ r, K r → K' r) (hv : vthen r K) : vthen r K' := by
  unfold vthen at *
  split at hv
  · exact ⟨hv.1, h _ hv.2⟩
  · exact hv
theorem vexec_mono {o : Op} {s : St} {K K' : Res → Prop} (h : ∀ r, K r → K' r) (hv : vexec P o s K) : vexec P o s K' := by
  unfold vexec at *
  split at hv
  · split at hv
    · obtain ⟨res, h1, h2⟩ := hv; exact ⟨res, h1, h _ h2⟩
    · exact vthen_mono h hv
    · unfold vinvoke at *
      split at hv
      · split at hv
        · obtain ⟨res, h1, h2⟩ := hv; exact ⟨res, h1, h _ h2⟩
        · exact hv
      · exact hv
  · exact vthen_mono h hv
theorem vops_mono {ops : Array Oper} : ∀ (l : List Oper) (s : St) (K K' : St → Prop), (∀ s, K s → K' s) → vops P n ops l s K → vops P n ops l s K'
  | [], s, K, K', h, hv => h s hv
  | o :: l, s, K, K', h, hv => by
    refine ⟨hv.1, ?_⟩
    have h2 := hv.2
    split at h2
    · exact vexec_mono (fun r hr => vops_mono l _ K K' h hr) h2
    · split at h2
      · refine ⟨h2.1, ?_⟩
        have h3 := h2.2
        unfold vguard at h3 ⊢
        split at h3
        · exact ⟨fun e => vexec_mono (fun r hr => vops_mono l _ K K' h hr) (h3.1 e), fun e => vops_mono l _ K K' h (h3.2 e)⟩
        · exact vops_mono l _ K K' h h3
        · exact h3
      · exact h2
theorem vdraw_mono {ops : Array Oper} : ∀ (l : List Oper) (tr : List (List Nat × List Nat)) (s : St) (K K' : St → Prop), (∀ s, K s → K' s) → vdraw P n ops K l tr s → vdraw P n ops K' l tr s
  | [], tr, s, K, K', h, hv => ⟨hv.1, h s hv.2⟩
  | o :: l, tr, s, K, K', h, hv => by
    refine ⟨hv.1, ?_⟩
    have h2 := hv.2
    split at h2
    · exact vexec_mono (fun r hr => ⟨hr.1, vdraw_mono l _ _ K K' h hr.2⟩) h2
    · split at h2
      · refine ⟨h2.1, ?_⟩
        have h3 := h2.2
        unfold vguard at h3 ⊢
        split at h3
        · exact ⟨fun e => vexec_mono (fun r hr => ⟨hr.1, vdraw_mono l _ _ K K' h hr.2⟩) (h3.1 e), fun e => vdraw_mono l _ _ K K' h (h3.2 e)⟩
        · exact vdraw_mono l _ _ K K' h h3
        · exact h3
      · exact h2
theorem vc_mono {m : Nat} : ∀ (c : Code) (Q Q' : Exit → St → Prop) (s : St), (∀ e s, Q e s → Q' e s) → vc P m n c Q s → vc P m n c Q' s
  | .skip, Q, Q', s, h, hv => h _ _ hv
  | .label _, Q, Q', s, h, hv => h _ _ hv
  | .region id ops true, Q, Q', s, h, hv => vdraw_mono _ _ _ _ _ (fun s hs => h _ _ hs) hv
  | .region id ops false, Q, Q', s, h, hv => vops_mono _ _ _ _ (fun s hs => h _ _ hs) hv
  | .seq x y, Q, Q', s, h, hv => vc_mono x _ _ s (fun e s he => by
      cases e
      case normal => exact vc_mono y Q Q' s h he
      all_goals exact h _ _ he) hv
  | .cond c x y, Q, Q', s, h, hv => by
    simp only [vc, vcond] at hv ⊢
    split at hv
    · exact ⟨fun hb => vc_mono x Q Q' s h (hv.1 hb), fun hb => vc_mono y Q Q' s h (hv.2 hb)⟩
    · exact hv
  | .block id c, Q, Q', s, h, hv => vc_mono c _ _ s (fun e s he => by
      cases e
      case exit i =>
        simp only [blockQ] at he ⊢
        split at he
        · rename_i e; rw [if_pos e]; exact h _ _ he
        · rename_i e; rw [if_neg e]; exact h _ _ he
      all_goals exact h _ _ he) hv
  | .loop c, Q, Q', s, h, hv => by
    obtain ⟨I, h0, hr⟩ := hv
    refine ⟨I, h0, fun k s hi hm => vc_mono c _ _ s (fun e s he => ?_) (hr k s hi hm)⟩
    cases e
    case normal => exact he
    all_goals exact h _ _ he
  | .exit id, Q, Q', s, h, hv => h _ _ hv
  | .ret, Q, Q', s, h, hv => h _ _ hv
  | .scope _, _, _, _, _, hv => hv
  | .goto _, _, _, _, _, hv => hv
  | .rangeFunc _ _ _ _, _, _, _, _, hv => hv
  | .refuse _, _, _, _, _, hv => hv
end
end Go.Vm
end
section
namespace Go.Vm

mutual
/-- It leads to blocks below n alone. -/
def V.low (n : Nat) : V → Prop
  | .ptr b _ => b < n
  | .slice b _ _ _ => b < n
  | .map b => b < n
  | .fn _ fs cs => lows n fs ∧ lows n cs
  | .agg cs => lows n cs
  | .tup cs => lows n cs
  | .iface _ v => v.low n
  | _ => True
def lows (n : Nat) : List V → Prop
  | [] => True
  | v :: l => v.low n ∧ lows n l
end
mutual
/-- Its blocks under other numbers. -/
def V.ren (σ : Nat → Nat) : V → V
  | .ptr b o => .ptr (σ b) o
  | .slice b o len esz => .slice (σ b) o len esz
  | .map b => .map (σ b)
  | .fn f fs cs => .fn f (rens σ fs) (rens σ cs)
  | .agg cs => .agg (rens σ cs)
  | .tup cs => .tup (rens σ cs)
  | .iface t v => .iface t (v.ren σ)
  | v => v
def rens (σ : Nat → Nat) : List V → List V
  | [] => []
  | v :: l => v.ren σ :: rens σ l
end
theorem rens_eq (σ : Nat → Nat) : ∀ l, rens σ l = l.map (V.ren σ)
  | [] => rfl
  | v :: l => by unfold rens; rw [rens_eq σ l]; rfl

section
variable {ρ ρ' : Nat → Nat × Nat} {dom dom' : Nat → Prop} {P : Program} {w w' : World} {n : Nat} {a : Act}
mutual
theorem VR.unren {σ : Nat → Nat} : ∀ {v : V} {r : Value}, VR ρ dom w (v.ren σ) r → v.low n → VR (fun b => ρ (σ b)) (· < n) w v r
  | .junk, _, _, _ => by unfold VR; trivial
  | .bool _, _, h, _ => by unfold V.ren at h; unfold VR at *; exact h
  | .u8 _, _, h, _ => by unfold V.ren at h; unfold VR at *; exact h
  | .u32 _, _, h, _ => by unfold V.ren at h; unfold VR at *; exact h
  | .u64 _, _, h, _ => by unfold V.ren at h; unfold VR at *; exact h
  | .i64 _, _, h, _ => by unfold V.ren at h; unfold VR at *; exact h
  | .i32 _, _, h, _ => by unfold V.ren at h; unfold VR at *; exact h
  | .str _, _, h, _ => by unfold V.ren at h; unfold VR at *; exact h
  | .ptr b _, _, h, hb => by unfold V.ren at h; unfold V.low at hb; unfold VR at *; exact ⟨hb, h.2⟩
  | .nilPtr, _, h, _ => by unfold V.ren at h; unfold VR at *; exact h
  | .slice b _ _ _, _, h, hb => by unfold V.ren at h; unfold V.low at hb; unfold VR at *; exact ⟨hb, h.2⟩
  | .nilSlice, _, h, _ => by unfold V.ren at h; unfold VR at *; exact h
  | .fn _ fs cs, _, h, hb => by
    unfold V.ren at h; unfold V.low at hb; unfold VR at *
    obtain ⟨f', c', h1, h2, h3⟩ := h
    exact ⟨f', c', h1, VRs.unren h2 hb.1, VRs.unren h3 hb.2⟩
  | .nilFn, _, h, _ => by unfold V.ren at h; unfold VR at *; exact h
  | .aFn _ _, _, h, _ => by unfold V.ren at h; unfold VR at *; exact h
  | .agg cs, _, h, hb => by
    unfold V.ren at h; unfold V.low at hb; unfold VR at *
    obtain ⟨r', h1, h2⟩ := h
    exact ⟨r', h1, VRs.unren h2 hb⟩
  | .tup cs, _, h, hb => by
    unfold V.ren at h; unfold V.low at hb; unfold VR at *
    obtain ⟨r', h1, h2⟩ := h
    exact ⟨r', h1, VRs.unren h2 hb⟩
  | .iface _ v, _, h, hb => by
    unfold V.ren at h; unfold V.low at hb; unfold VR at *
    obtain ⟨r', h1, h2⟩ := h
    exact ⟨r', h1, VR.unren h2 hb⟩
  | .nilIface, _, h, _ => by unfold V.ren at h; unfold VR at *; exact h
  | .map b, _, h, hb => by unfold V.ren at h; unfold V.low at hb; unfold VR at *; exact ⟨hb, h.2⟩
theorem VRs.unren {σ : Nat → Nat} : ∀ {vs : List V} {rs : List Value}, VRs ρ dom w (rens σ vs) rs → lows n vs → VRs (fun b => ρ (σ b)) (· < n) w vs rs
  | [], _, h, _ => by unfold rens at h; unfold VRs at *; exact h
  | v :: vs, _, h, hb => by
    unfold rens at h; unfold lows at hb; unfold VRs at *
    obtain ⟨r, rs, h1, h2, h3⟩ := h
    exact ⟨r, rs, h1, VR.unren h2 hb.1, VRs.unren h3 hb.2⟩
end
mutual
theorem VR.doren {σ : Nat → Nat} (hσ : ∀ b, dom b → dom' (σ b)) (hρ : ∀ b, dom b → ρ' (σ b) = ρ b) : ∀ {v : V} {r : Value}, VR ρ dom w v r → VR ρ' dom' w (v.ren σ) r
  | .junk, _, _ => by unfold V.ren VR; trivial
  | .bool _, _, h => by unfold V.ren; unfold VR at *; exact h
  | .u8 _, _, h => by unfold V.ren; unfold VR at *; exact h
  | .u32 _, _, h => by unfold V.ren; unfold VR at *; exact h
  | .u64 _, _, h => by unfold V.ren; unfold VR at *; exact h
  | .i64 _, _, h => by unfold V.ren; unfold VR at *; exact h
  | .i32 _, _, h => by unfold V.ren; unfold VR at *; exact h
  | .str _, _, h => by unfold V.ren; unfold VR at *; exact h
  | .ptr b _, _, h => by unfold V.ren; unfold VR at *; exact ⟨hσ b h.1, by rw [hρ b h.1]; exact h.2⟩
  | .nilPtr, _, h => by unfold V.ren; unfold VR at *; exact h
  | .slice b _ _ _, _, h => by unfold V.ren; unfold VR at *; exact ⟨hσ b h.1, by rw [hρ b h.1]; exact h.2⟩
  | .nilSlice, _, h => by unfold V.ren; unfold VR at *; exact h
  | .fn _ fs cs, _, h => by
    unfold V.ren; unfold VR at *
    obtain ⟨f', c', h1, h2, h3⟩ := h
    exact ⟨f', c', h1, VRs.doren hσ hρ h2, VRs.doren hσ hρ h3⟩
  | .nilFn, _, h => by unfold V.ren; unfold VR at *; exact h
  | .aFn _ _, _, h => by unfold V.ren; unfold VR at *; exact h
  | .agg cs, _, h => by
    unfold V.ren; unfold VR at *
    obtain ⟨r', h1, h2⟩ := h
    exact ⟨r', h1, VRs.doren hσ hρ h2⟩
  | .tup cs, _, h => by
    unfold V.ren; unfold VR at *
    obtain ⟨r', h1, h2⟩ := h
    exact ⟨r', h1, VRs.doren hσ hρ h2⟩
  | .iface _ v, _, h => by
    unfold V.ren; unfold VR at *
    obtain ⟨r', h1, h2⟩ := h
    exact ⟨r', h1, VR.doren hσ hρ h2⟩
  | .nilIface, _, h => by unfold V.ren; unfold VR at *; exact h
  | .map b, _, h => by unfold V.ren; unfold VR at *; exact ⟨hσ b h.1, by rw [hρ b h.1]; exact h.2⟩
theorem VRs.doren {σ : Nat → Nat} (hσ : ∀ b, dom b → dom' (σ b)) (hρ : ∀ b, dom b → ρ' (σ b) = ρ b) : ∀ {vs : List V} {rs : List Value}, VRs ρ dom w vs rs → VRs ρ' dom' w (rens σ vs) rs
  | [], _, h => by unfold rens; unfold VRs at *; exact h
  | v :: vs, _, h => by
    unfold rens; unfold VRs at *
    obtain ⟨r, rs, h1, h2, h3⟩ := h
    exact ⟨r, rs, h1, VR.doren hσ hρ h2, VRs.doren hσ hρ h3⟩
end
mutual
theorem V.ren_id : ∀ (v : V), v.ren id = v
  | .junk | .bool _ | .u8 _ | .u32 _ | .u64 _ | .i64 _ | .i32 _ | .str _ | .nilPtr | .nilSlice | .nilFn | .aFn _ _ | .nilIface => by unfold V.ren; rfl
  | .ptr b _ => by unfold V.ren; rfl
  | .map b => by unfold V.ren; rfl
  | .slice b _ _ _ => by unfold V.ren; rfl
  | .fn _ fs cs => by unfold V.ren; rw [rens_id fs, rens_id cs]
  | .agg cs => by unfold V.ren; rw [rens_id cs]
  | .tup cs => by unfold V.ren; rw [rens_id cs]
  | .iface _ v => by unfold V.ren; rw [V.ren_id v]
theorem rens_id : ∀ (l : List V), rens id l = l
  | [] => rfl
  | v :: l => by unfold rens; rw [V.ren_id v, rens_id l]
end
/-- Blocks below n are all that is spoken of. -/
theorem VR.restrict {v : V} {r : Value} (h : VR ρ dom w v r) (hb : v.low n) : VR ρ (· < n) w v r := by
  have h' : VR ρ dom w (v.ren id) r := by rw [V.ren_id]; exact h
  exact VR.unren h' hb
theorem VRs.restrict {v : List V} {r : List Value} (h : VRs ρ dom w v r) (hb : lows n v) : VRs ρ (· < n) w v r := by
  have h' : VRs ρ dom w (rens id v) r := by rw [rens_id]; exact h
  exact VRs.unren h' hb

/-! ### Results -/
def vresults (P : Program) (s : St) : List ResultVar → (List V → Prop) → Prop
  | [], K => K []
  | .tmp t :: r, K => vresults P s r fun l => K (s.get t :: l)
  | .cell x t :: r, K => vthen (vop P (.load t (.tmp x)) s.ev (getH s.H) s.H.length) (hold fun res => vresults P s r fun l => K (res.v :: l))
def vtuple : List V → V
  | [v] => v
  | l => .tup l
def retQ (P : Program) (fn : Func) (R : V → St → Prop) : Exit → St → Prop
  | .normal, s => vresults P s fn.results.toList fun l => R (vtuple l) s
  | .ret, s => vresults P s fn.results.toList fun l => R (vtuple l) s
  | _, _ => False

def resSem (tmps : Array Value) : ResultVar → Sem Value
  | .tmp t => pure (tmps.getD t undef)
  | .cell x t => do loadVar t (← asAddr (tmps.getD x undef))
theorem results_eq (fn : Func) (tmps : Array Value) : results fn tmps = (do
    let vs ← fn.results.mapM (resSem tmps)
    pure (if h : vs.size = 1 then vs[0] else .tuple vs)) := by
  unfold results
  congr 1
theorem results_list {s : St} (hr : RelSt ρ n s a w) : ∀ (rs : List ResultVar) (K : List V → Prop), vresults P s rs K → ∃ l vs, K l ∧ VRs ρ (· < s.H.length) w l vs ∧
    (rs.mapM (resSem a.tmps)).run P w = .ok vs w
  | [], K, h => ⟨[], [], h, VRs.nil, by simp⟩
  | .tmp t :: rs, K, h => by
    obtain ⟨l, vs, h1, h2, h3⟩ := results_list hr rs _ h
    exact ⟨_, _, h1, VRs.cons (hr.tmps.slot t) h2, by simp only [List.mapM_cons, resSem, Sem.run_bind, Sem.run_pure, Result.andThen_ok, h3]⟩
  | .cell x t :: rs, K, h => by
    unfold vresults vthen at h
    split at h
    case h_2 => exact h.elim
    rename_i res hres
    obtain ⟨hp, h⟩ := h
    obtain ⟨l, vs, h1, h2, h3⟩ := results_list hr rs _ h
    have hx := hr.tmps.slot x
    simp only [vop] at hres
    split at hres
    case h_2 => cases hres
    rename_i b p hb
    have hb' : s.get x = .ptr b p := hb
    rw [hb'] at hx
    have key : ∃ r, (Instr.loadAt t (a.tmps.getD x undef)).run P w = .ok r w ∧ VR ρ (· < s.H.length) w res.v r := by
      split at hres
      · rename_i B k hB ht hs
        injection hres with hres; subst hres
        have := load_sound hr.mem hx hB ht hs
        simp only [if_true] at this
        exact this hp
      · rename_i B k hB ht hs
        injection hres with hres; subst hres
        have := load_sound hr.mem hx hB ht hs
        simp only [Bool.false_eq_true, if_false] at this
        exact this hp
      · cases hres
    obtain ⟨r, g1, g2⟩ := key
    unfold VR at hx
    obtain ⟨_, e⟩ := hx
    rw [e] at g1
    simp only [Instr.loadAt, Instr.sureAddr, Sem.run_bind, Sem.run_pure, Result.andThen_ok] at g1
    have e2 : (asAddr (a.tmps.getD x undef)).run P w = .ok ⟨(ρ b).1, (ρ b).2 + p, none⟩ w := by rw [e]; rfl
    exact ⟨_, _, h1, VRs.cons g2 h2, by simp only [List.mapM_cons, resSem, e2, Sem.run_bind, Sem.run_pure, Result.andThen_ok, g1, h3]⟩

theorem results_sound {s : St} {fn : Func} {R : V → St → Prop} (hr : RelSt ρ n s a w) (h : vresults P s fn.results.toList fun l => R (vtuple l) s) : ∃ v r, R v s ∧ VR ρ (· < s.H.length) w v r ∧ (results fn a.tmps).run P w = .ok r w := by
  obtain ⟨l, vs, h1, h2, h3⟩ := results_list (P := P) hr _ _ h
  have h4 : (results fn a.tmps).run P w = .ok (if h : vs.toArray.size = 1 then vs.toArray[0] else .tuple vs.toArray) w := by
    rw [results_eq, Array.mapM_eq_mapM_toList]
    simp only [Sem.run_bind, Sem.run_map, Sem.run_pure]
    rw [h3]
    rfl
  match l, vs, h1, h2, h4 with
  | [], vs, h1, h2, h4 =>
    have := h2.length
    obtain rfl : vs = [] := List.length_eq_zero_iff.1 (by simpa using this)
    exact ⟨_, _, h1, by show VR _ _ _ (.tup []) _; unfold VR; exact ⟨_, rfl, VRs.nil⟩, h4⟩
  | [v], vs, h1, h2, h4 =>
    unfold VRs at h2
    obtain ⟨r, rs, rfl, g1, g2⟩ := h2
    unfold VRs at g2
    subst g2
    exact ⟨_, _, h1, g1, h4⟩
  | v :: v' :: l, vs, h1, h2, h4 =>
    have hl := h2.length
    rw [dif_neg (by simp at hl ⊢; omega)] at h4
    exact ⟨_, _, h1, by show VR _ _ _ (.tup _) _; unfold VR; exact ⟨_, rfl, h2⟩, h4⟩

/-! ### Functions -/
def argsT : List V → Nat → List (Nat × V)
  | [], _ => []
  | v :: l, i => (i, v) :: argsT l (i + 1)
theorem look_args : ∀ (l : List V) (i t : Nat), lookS (argsT l i) t = if i ≤ t ∧ t < i + l.length then l.getD (t - i) .junk else .junk
  | [], i, t => by simp [argsT, lookS]
  | v :: l, i, t => by
    simp only [argsT, lookS, look_args l (i + 1) t, List.length_cons]
    by_cases e : i = t
    · subst e; simp
    · rw [if_neg e]
      by_cases h : i + 1 ≤ t ∧ t < i + 1 + l.length
      · rw [if_pos h, if_pos (by omega), show t - i = (t - (i + 1)) + 1 by omega]; simp
      · rw [if_neg h, if_neg (by omega)]

/-- What is known of a function over a small memory h: the value v, the memory h'. -/
def Spec0 (P : Program) (f : FuncId) (args : List V) (h : List (Option Blk)) (v : V) (h' : List (Option Blk)) : Prop :=
  ∀ (ρ : Nat → Nat × Nat) (w : World) (rargs : Array Value), VRs ρ (· < h.length) w args rargs.toList → MemRel ρ (· < h.length) (getH h) w →
    Calls P f rargs w fun e w' => ∃ r ρ', e = .returned r ∧ VR ρ' (· < h'.length) w' v r ∧ MemRel ρ' (· < h'.length) (getH h') w' ∧ h.length ≤ h'.length ∧ (∀ b, b < h.length → ρ' b = ρ b) ∧ Frame ρ (getH h) w ρ' (getH h') w'
/-- The end of a function: the value v in the state s says at least v' in the memory h'. -/
def Fin (m : Nat) (v' : V) (h' : List (Option Blk)) (v : V) (s : St) : Prop := m ≤ h'.length ∧
  ∀ (ρ : Nat → Nat × Nat) (w : World) (r : Value), VR ρ (· < s.H.length) w v r → MemRel ρ (· < s.H.length) (getH s.H) w → m ≤ s.H.length → ∃ ρ', VR ρ' (· < h'.length) w v' r ∧ MemRel ρ' (· < h'.length) (getH h') w ∧ (∀ b, b < m → ρ' b = ρ b) ∧
    (∀ b B, getH h' b = some B → B.ro = false → ∃ b0 B0, getH s.H b0 = some B0 ∧ B0.ro = false ∧ (ρ b0).1 = (ρ' b).1)
theorem Fin.pure {v : V} {s : St} (hv : v.low 0) : Fin 0 v [] v s := ⟨Nat.le_refl _, fun ρ w r h1 h2 _ => ⟨ρ, h1.restrict hv, ⟨fun b B h => by simp [getH] at h, fun b B h => by simp [getH] at h, fun b b' B B' h => by simp [getH] at h, fun b B h => by simp [getH] at h, fun b B h => by simp [getH] at h, fun b B m h => by simp [getH] at h⟩, fun _ h => by omega, fun b B h => by simp [getH] at h⟩⟩
/-- The same numbers; what is behind is dropped. -/
theorem Fin.same {m : Nat} {v : V} {s : St} {h' : List (Option Blk)} (hm : m ≤ h'.length) (hl : h'.length ≤ s.H.length) (hv : v.low h'.length) (hH : ∀ b B, getH h' b = some B → getH s.H b = some B ∧ lows h'.length B.cs) : Fin m v h' v s :=
  ⟨hm, fun ρ w r h1 h2 _ => ⟨ρ, h1.restrict hv, ⟨fun b B h => by
      unfold getH at h
      exact Nat.lt_of_not_le (fun hb => by rw [List.getElem?_eq_none hb] at h; simp at h),
    fun b B h => h2.lt b B (hH b B h).1, fun b b' B B' h h' hr hne => h2.inj b b' B B' (hH b B h).1 (hH b' B' h').1 hr hne,
    fun b B h i v hv => by
      obtain ⟨r, g1, g2⟩ := h2.cell b B (hH b B h).1 i v hv
      have hb := (hH b B h).2
      refine ⟨r, g1, g2.restrict ?_⟩
      have : ∀ (l : List V) (i : Nat), lows h'.length l → l[i]? = some v → v.low h'.length := by
        intro l
        induction l with
        | nil => intro i _ h; simp at h
        | cons x l ih =>
          intro i hb h
          unfold lows at hb
          cases i with
          | zero => simp at h; subst h; exact hb.1
          | succ i => exact ih i hb.2 (by simpa using h)
      exact this B.cs i hb hv,
    fun b B h hr i hi => h2.free b B (hH b B h).1 hr i hi, fun b B m h hmp => h2.mapc b B m (hH b B h).1 hmp⟩, fun _ _ => rfl, fun b B h hr => ⟨b, B, (hH b B h).1, hr, rfl⟩⟩⟩

theorem spec0_of_vc (hmix : P.follows .mixedOrders = true) {f : FuncId} {fn : Func} {c : Code} {args : List V} {h h' : List (Option Blk)} {v : V} (hf : P.funcs[f]? = some fn) (hb : fn.body = some c) (hn : args.length ≤ fn.ntmps)
    (hv : vc P h.length fn.ntmps c (retQ P fn (Fin h.length v h')) ⟨argsT args 0, h⟩) : Spec0 P f args h v h' := by
  intro ρ w rargs ha hm
  have hal := ha.length
  refine calls_of_wp hf hb (wp_mono (vc_sound hmix c _ _ hv ρ _ w ⟨⟨?_, rfl, fun t => ?_⟩, hm⟩ (Nat.le_refl _)) ?_)
  · have : rargs.size = args.length := by simpa using hal
    simp; omega
  · show VR _ _ _ (lookS (argsT args 0) t) _
    rw [look_args]
    split
    · rename_i ht
      obtain ⟨r, g1, g2⟩ := ha.get (i := t) (v := args.getD t .junk) (by rw [List.getD_eq_getElem?_getD, List.getElem?_eq_getElem (by omega)]; rfl)
      have hlt : t < rargs.size := by simpa using (List.getElem?_eq_some_iff.1 g1).1
      simp only [Nat.sub_zero]
      have : (rargs ++ Array.replicate (fn.ntmps - rargs.size) undef).getD t undef = r := by
        rw [Array.getD_eq_getD_getElem?, Array.getElem?_append_left hlt]
        have : rargs[t]? = some r := by rw [← g1]; simp
        rw [this]; rfl
      rw [this]; exact g2
    · unfold VR; trivial
  · rintro e a' w' ⟨s', ρ', q1, q2, q3⟩
    have fin : (vresults P s' fn.results.toList fun l => Fin h.length v h' (vtuple l) s') → ∃ r, (results fn a'.tmps).run P w' = .ok r w' ∧ (∃ r' ρ', Ending.returned r = .returned r' ∧ VR ρ' (· < h'.length) w' v r' ∧ MemRel ρ' (· < h'.length) (getH h') w' ∧ h.length ≤ h'.length ∧ (∀ b, b < h.length → ρ' b = ρ b) ∧ Frame ρ (getH h) w ρ' (getH h') w') := fun q => by
      obtain ⟨v1, r, g1, g2, g3⟩ := results_sound q2 q
      obtain ⟨ρ2, k1, k2, k3, k4⟩ := g1.2 ρ' w' r g2 q2.mem q3.1
      exact ⟨r, g3, r, ρ2, rfl, k1, k2, g1.1, fun b hb => (k3 b hb).trans (q3.2.1 b hb), q3.2.2.less k4⟩
    cases e
    case normal => exact ⟨q2.tmps.defers, fin q1⟩
    case ret => exact ⟨q2.tmps.defers, fin q1⟩
    all_goals exact q1.elim

/-- A function of plain values: whatever memory holds. -/
def PureFn (P : Program) (f : FuncId) (args : List V) (v : V) : Prop := callable P f = true ∧ ∀ get0 nid, Spec P f args get0 nid { v := v }
theorem pure_of_spec0 {f : FuncId} {args : List V} {v : V} (hc : callable P f = true) (ha : lows 0 args) (h : Spec0 P f args [] v []) : PureFn P f args v := ⟨hc, fun get0 nid ρ dom get w rargs hm hr _ _ => by
  have he : MemRel ρ (· < ([] : List (Option Blk)).length) (getH []) w := ⟨fun b B h => by simp [getH] at h, fun b B h => by simp [getH] at h, fun b b' B B' h => by simp [getH] at h, fun b B h => by simp [getH] at h, fun b B h => by simp [getH] at h, fun b B m h => by simp [getH] at h⟩
  refine (h ρ w rargs (hr.restrict ha) he).mono ?_
  rintro e w' ⟨r, ρ', rfl, h1, _, _, _, h5⟩
  have hk : ∀ r, r < w.heap.size → w'.heap[r]? = w.heap[r]? := fun r hr => h5.keep r hr (fun b B h => by simp [getH] at h)
  have hcell : ∀ b o, b < w.heap.size → w'.cell? ⟨b, o, none⟩ = w.cell? ⟨b, o, none⟩ := fun b o hb => World.cell?_of_block (hk b hb)
  have hfroz : ∀ b o, b < w.heap.size → w'.frozen? ⟨b, o, none⟩ = w.frozen? ⟨b, o, none⟩ := fun b o hb => World.frozen?_of_block (hk b hb)
  refine ⟨r, ρ, rfl, fun _ _ => rfl, ?_, ?_, ?_⟩
  · rw [upd_nil]
    exact ⟨fun b B hB => .inl (hm.has b B hB), fun b B hB => Nat.lt_of_lt_of_le (hm.lt b B hB) h5.size, hm.inj, fun b B hB i v hv => by
      obtain ⟨r, g1, g2⟩ := hm.cell b B hB i v hv
      exact ⟨r, by rw [hcell _ _ (hm.lt b B hB)]; exact g1, g2.mono (fun _ _ => rfl) (fun _ h => .inl h) h5.lasts⟩,
      fun b B hB hr i hi => by rw [hfroz _ _ (hm.lt b B hB)]; exact hm.free b B hB hr i hi, fun b B m hB hmp => by rw [hk _ (hm.lt b B hB)]; exact hm.mapc b B m hB hmp⟩
  · exact h1.mono (fun b (hb : b < 0) => by omega) (fun b (hb : b < 0) => by omega) (Lasts.refl _)
  · rw [upd_nil]
    exact ⟨h5.os, h5.output, h5.tape, h5.size, fun r hr _ => hk r hr, h5.lasts, fun b B hB hr => .inl ⟨b, B, hB, hr, rfl⟩⟩⟩
/-- A pure function out of its code. -/
theorem pure_of_vc (hmix : P.follows .mixedOrders = true) {f : FuncId} {fn : Func} {c : Code} {args : List V} {v : V} (hc : callable P f = true) (hf : P.funcs[f]? = some fn) (hb : fn.body = some c) (hn : args.length ≤ fn.ntmps) (ha : lows 0 args) (hvb : v.low 0)
    (hv : vc P 0 fn.ntmps c (retQ P fn fun v' _ => v' = v) ⟨argsT args 0, []⟩) : PureFn P f args v := by
  refine pure_of_spec0 hc ha (spec0_of_vc hmix hf hb hn ?_)
  refine vc_mono c _ _ _ (fun e s h => ?_) hv
  have hmono : ∀ (rs : List ResultVar) (K K' : List V → Prop), (∀ l, K l → K' l) → vresults P s rs K → vresults P s rs K' := by
    intro rs
    induction rs with
    | nil => intro K K' h h1; exact h _ h1
    | cons x rs ih =>
      intro K K' h h1
      cases x with
      | tmp t => exact ih _ _ (fun l hl => h _ hl) h1
      | cell x t =>
        exact vthen_mono (fun r hr => ih _ _ (fun l hl => h _ hl) hr) h1
  cases e
  case normal => exact hmono _ _ _ (fun l (hl : vtuple l = v) => hl ▸ Fin.pure (hl ▸ hvb)) h
  case ret => exact hmono _ _ _ (fun l (hl : vtuple l = v) => hl ▸ Fin.pure (hl ▸ hvb)) h
  all_goals exact h
end
end Go.Vm
end
section
namespace Go.Vm
section
variable {m n : Nat} {s s' : St}
def sgOf (sg : List Nat) (b : Nat) : Nat := sg.getD b 0
theorem lows_get {N : Nat} : ∀ {l : List V} {i : Nat} {v : V}, lows N l → l[i]? = some v → v.low N
  | [], _, _, _, h => by simp at h
  | x :: l, 0, v, hb, h => by
    unfold lows at hb
    simp at h; subst h; exact hb.1
  | x :: l, i + 1, v, hb, h => by
    unfold lows at hb
    exact lows_get hb.2 (by simpa using h)
theorem getH_lt {H : List (Option Blk)} {b : Nat} {B : Blk} (h : getH H b = some B) : b < H.length := by
  unfold getH at h
  exact Nat.lt_of_not_le (fun hb => by rw [List.getElem?_eq_none hb] at h; simp at h)
theorem Weak.rename (σ : Nat → Nat) (hm : m ≤ s'.H.length) (hσm : ∀ b, b < m → σ b = b) (ht : ∀ p ∈ s'.t, p.2.ren σ = s.get p.1 ∧ p.2.low s'.H.length)
    (hH : ∀ b B, getH s'.H b = some B → getH s.H (σ b) = some ⟨B.ro, rens σ B.cs, B.mp⟩ ∧ lows s'.H.length B.cs)
    (hinj : ∀ b b', b < s'.H.length → b' < s'.H.length → b ≠ b' → σ b ≠ σ b') : Weak m n s s' := fun ρ a w hr hms => by
  refine ⟨fun b => ρ (σ b), ⟨⟨hr.tmps.size, hr.tmps.defers, fun t => ?_⟩, ?_⟩, hm, fun b hb => by show ρ (σ b) = ρ b; rw [hσm b hb], ?_⟩
  · have : ∀ (l : List (Nat × V)), (∀ p ∈ l, p.2.ren σ = s.get p.1 ∧ p.2.low s'.H.length) → VR (fun b => ρ (σ b)) (· < s'.H.length) w (lookS l t) (a.tmps.getD t undef) := by
      intro l
      induction l with
      | nil => intro _; show VR _ _ _ .junk _; unfold VR; trivial
      | cons p l ih =>
        intro h
        simp only [lookS]
        split
        · rename_i e
          have h1 := h p (by simp)
          have h2 := hr.tmps.slot t
          rw [← e, ← h1.1] at h2
          rw [← e]
          exact h2.unren h1.2
        · exact ih fun q hq => h q (by simp [hq])
    exact this s'.t ht
  · refine ⟨fun b B h => getH_lt h, fun b B h => hr.mem.lt _ _ (hH b B h).1, fun b b' B B' h h' hro hne => ?_, fun b B h i v hv => ?_, fun b B h hro i hi => ?_, fun b B mm h hmp => hr.mem.mapc _ _ mm (hH b B h).1 hmp⟩
    · exact hr.mem.inj _ _ _ _ (hH b B h).1 (hH b' B' h').1 hro (hinj b b' (getH_lt h) (getH_lt h') hne)
    · have h1 : (rens σ B.cs)[i]? = some (v.ren σ) := by rw [rens_eq, List.getElem?_map, hv]; rfl
      obtain ⟨r, g1, g2⟩ := hr.mem.cell _ _ (hH b B h).1 i _ h1
      exact ⟨r, g1, g2.unren (lows_get (hH b B h).2 hv)⟩
    · exact hr.mem.free _ _ (hH b B h).1 hro i (by show i < (rens σ B.cs).length; rw [rens_eq, List.length_map]; exact hi)
  · exact (Frame.refl ρ (getH s.H) w).less fun b B hB hro => ⟨σ b, _, (hH b B hB).1, hro, rfl⟩
def slotsOk (σ : Nat → Nat) (N : Nat) (s : St) : List (Nat × V) → Prop
  | [] => True
  | p :: l => (p.2.ren σ = s.get p.1 ∧ p.2.low N) ∧ slotsOk σ N s l
def blksOk (σ : Nat → Nat) (N : Nat) (s : St) : List (Option Blk) → Nat → Prop
  | [], _ => True
  | none :: l, i => blksOk σ N s l (i + 1)
  | some B :: l, i => (getH s.H (σ i) = some ⟨B.ro, rens σ B.cs, B.mp⟩ ∧ lows N B.cs) ∧ blksOk σ N s l (i + 1)
theorem slotsOk_all {σ : Nat → Nat} {N : Nat} : ∀ {l : List (Nat × V)}, slotsOk σ N s l → ∀ p ∈ l, p.2.ren σ = s.get p.1 ∧ p.2.low N
  | [], _, p, hp => by cases hp
  | q :: l, h, p, hp => by
    rcases List.mem_cons.1 hp with e | hp
    · subst e; exact h.1
    · exact slotsOk_all h.2 p hp
theorem blksOk_all {σ : Nat → Nat} {N : Nat} : ∀ {l : List (Option Blk)} {i : Nat}, blksOk σ N s l i → ∀ b B, getH l b = some B → getH s.H (σ (i + b)) = some ⟨B.ro, rens σ B.cs, B.mp⟩ ∧ lows N B.cs
  | [], _, _, b, B, h => by simp [getH] at h
  | none :: l, i, hk, b, B, h => by
    cases b with
    | zero => simp [getH] at h
    | succ b => have := blksOk_all (l := l) hk b B (by simpa [getH] using h); rw [show i + (b + 1) = i + 1 + b by omega]; exact this
  | some C :: l, i, hk, b, B, h => by
    cases b with
    | zero => simp [getH] at h; subst h; exact hk.1
    | succ b => have := blksOk_all (l := l) hk.2 b B (by simpa [getH] using h); rw [show i + (b + 1) = i + 1 + b by omega]; exact this
/-- The new numbers as a list: the old number of each. -/
theorem Weak.ren (sg : List Nat) (hl : sg.length = s'.H.length) (hm : m ≤ sg.length) (hp : sg.take m = List.range m) (hnd : sg.Nodup)
    (ht : slotsOk (sgOf sg) s'.H.length s s'.t) (hH : blksOk (sgOf sg) s'.H.length s s'.H 0) : Weak m n s s' :=
  Weak.rename (sgOf sg) (by omega) (fun b hb => by
      unfold sgOf
      have h1 : (sg.take m)[b]? = some b := by rw [hp, List.getElem?_range hb]
      rw [List.getElem?_take_of_lt hb] at h1
      rw [List.getD_eq_getElem?_getD, h1]; rfl)
    (slotsOk_all ht) (fun b B h => by have := blksOk_all hH b B h; rw [Nat.zero_add] at this; exact this)
    (fun b b' hb hb' hne e => by
      unfold sgOf at e
      rw [List.getD_eq_getElem?_getD, List.getD_eq_getElem?_getD, List.getElem?_eq_getElem (by omega), List.getElem?_eq_getElem (by omega)] at e
      exact hne ((List.getElem_inj hnd).1 (by simpa using e)))
theorem again_ren {I : Nat → St → Prop} {k : Nat} (k' : Nat) (s'' : St) (sg : List Nat) (hk : k' < k) (hl : sg.length = s''.H.length) (hm : m ≤ sg.length) (hp : sg.take m = List.range m) (hnd : sg.Nodup)
    (ht : slotsOk (sgOf sg) s''.H.length s s''.t) (hH : blksOk (sgOf sg) s''.H.length s s''.H 0) (hi : I k' s'') : again m n I k s := ⟨k', s'', hk, Weak.ren sg hl hm hp hnd ht hH, hi⟩
theorem start_ren {I : Nat → St → Prop} (k : Nat) (s0 : St) (sg : List Nat) (hl : sg.length = s0.H.length) (hm : m ≤ sg.length) (hp : sg.take m = List.range m) (hnd : sg.Nodup)
    (ht : slotsOk (sgOf sg) s0.H.length s s0.t) (hH : blksOk (sgOf sg) s0.H.length s s0.H 0) (hi : I k s0) : ∃ k s0, Weak m n s s0 ∧ I k s0 := ⟨k, s0, Weak.ren sg hl hm hp hnd ht hH, hi⟩
end
end Go.Vm
end
