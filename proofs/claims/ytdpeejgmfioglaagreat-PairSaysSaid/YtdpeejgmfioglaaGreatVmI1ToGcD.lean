/- A part of the proof: laws of a small machine of values, or what one function answers, proved against the model; no conditions beyond those in each theorem. -/
import Derived.Lib.OthersKept
import Derived.Test.YtdpeejgmfioglaaGreatVmTToVmW
import Derived.Test.YtdpeejgmfioglaaGreatShelfJoinToAeO
import Derived.Test.YtdpeejgmfioglaaGreatTypesToChaR
import Derived.Test.YtdpeejgmfioglaaGreatChaVToPoY
import Derived.Test.YtdpeejgmfioglaaGreatShelfRepToAeA
set_option linter.unusedVariables false
set_option linter.unusedSimpArgs false
set_option linter.unusedSectionVars false
section
namespace Go.Vm
open Go Go.RowKit
/-- The iterator of the string S stands in the machine's block of b, at pos; no block that is written lies there; it is younger than w0. -/
structure Iter (S : ByteArray) (b : Nat) (w0 : World) (ρ : Nat → Nat × Nat) (s : St) (w : World) (pos : Nat) : Prop where
  lt : b < s.H.length
  zero : (ρ b).2 = 0
  young : w0.heap.size ≤ (ρ b).1
  here : w.heap[(ρ b).1]? = some (.stringIter S pos)
  own : ∀ b' B, getH s.H b' = some B → B.ro = false → (ρ b').1 ≠ (ρ b).1
theorem Iter.step {S : ByteArray} {b m : Nat} {w0 w w' : World} {ρ ρ' : Nat → Nat × Nat} {s s' : St} {pos : Nat} (h : Iter S b w0 ρ s w pos) (k : Step m ρ s w ρ' s' w') (hb : b < m) : Iter S b w0 ρ' s' w' pos := by
  obtain ⟨k1, k2, k3⟩ := k
  have e := k2 b hb
  have hlt : (ρ b).1 < w.heap.size := (Array.getElem?_eq_some_iff.1 h.here).1
  refine ⟨by omega, by rw [e]; exact h.zero, by rw [e]; exact h.young, ?_, ?_⟩
  · rw [e, k3.keep _ hlt (fun b' B h1 h2 => h.own b' B h1 h2)]; exact h.here
  · intro b' B hB hro
    rw [e]
    rcases k3.own b' B hB hro with ⟨b0, B0, g1, g2, g3⟩ | g
    · rw [← g3]; exact h.own b0 B0 g1 g2
    · omega
section
variable {P : Program} {n : Nat} {S : ByteArray} {b : Nat} {w0 w : World} {ρ : Nat → Nat × Nat} {s : St} {a : Act} {pos : Nat}
/-- What one 'next' answers. -/
def nextV (S : ByteArray) (pos : Nat) : V := if pos < S.size then .tup [.bool true, .i64 pos, .i32 ((bytesOf S).getD pos 0).toNat] else .tup [.bool false]
end
end Go.Vm
end
section
namespace Go.Vm
open Go Go.RowKit
section
variable {P : Program} {m n : Nat}
/-- What is to be shown of a piece of code, told in the machine's words. -/
def GS (P : Program) (m n : Nat) (c : Code) (Q : Exit → St → Prop) (s : St) : Prop :=
  ∀ (ρ : Nat → Nat × Nat) (a : Act) (w : World), RelSt ρ n s a w → m ≤ s.H.length → c.wp P (LiftE m n ρ s w Q) a w
theorem gs_of_vc (hmix : P.follows .mixedOrders = true) {c : Code} {Q : Exit → St → Prop} {s : St} (h : vc P m n c Q s) : GS P m n c Q s := fun ρ a w hr hm => vc_sound hmix c Q s h ρ a w hr hm
theorem gs_seq {x y : Code} {K : St → Prop} {Q : Exit → St → Prop} {s : St} (hx : GS P m n x (seqQ K Q) s) (hy : ∀ s', K s' → GS P m n y Q s') : GS P m n (.seq x y) Q s := fun ρ a w hr hm => by
  refine wp_seq (wp_mono (hx ρ a w hr hm) ?_)
  rintro e a' w' ⟨s', ρ', q1, q2, q3⟩
  cases e
  case normal => exact wp_mono (hy s' q1 ρ' a' w' q2 q3.1) fun e a'' w'' ⟨s'', ρ'', r1, r2, r3⟩ => ⟨s'', ρ'', r1, r2, q3.trans r3⟩
  all_goals exact ⟨s', ρ', q1, q2, q3⟩
end
theorem gs_weak {P : Program} {m n : Nat} {c : Code} {Q : Exit → St → Prop} {s s1 : St} (h : GS P m n c Q s1) (hw : Weak m n s s1) : GS P m n c Q s := fun ρ a w hr hm => by
  obtain ⟨ρ1, h1, h2⟩ := hw ρ a w hr hm
  refine wp_mono (h ρ1 a w h1 h2.1) ?_
  rintro e a' w' ⟨s', ρ', q1, q2, q3⟩
  exact ⟨s', ρ', q1, q2, h2.trans q3⟩
/-- A pure function out of its code, told in the machine's words. -/
theorem spec0_of_gs {P : Program} {f : FuncId} {fn : Func} {c : Code} {args : List V} {h h' : List (Option Blk)} {v : V} (hf : P.funcs[f]? = some fn) (hb : fn.body = some c) (hn : args.length ≤ fn.ntmps)
    (hv : GS P h.length fn.ntmps c (retQ P fn (Fin h.length v h')) ⟨argsT args 0, h⟩) : Spec0 P f args h v h' := by
  intro ρ w rargs ha hm
  have hal := ha.length
  refine calls_of_wp hf hb (wp_mono (hv ρ _ w ⟨⟨?_, rfl, fun t => ?_⟩, hm⟩ (Nat.le_refl _)) ?_)
  · have : rargs.size = args.length := by simpa using hal
    simp; omega
  · show VR _ _ _ (lookS (argsT args 0) t) _
    rw [look_args]
    split
    · rename_i ht
      obtain ⟨r, g1, g2⟩ := ha.get (i := t) (v := args.getD t .junk) (by rw [List.getD_eq_getElem?_getD, List.getElem?_eq_getElem (by omega)]; rfl)
      have hlt : t < rargs.size := by simpa using (List.getElem?_eq_some_iff.1 g1).1
      simp only [Nat.sub_zero]
      have : (rargs ++ Array.replicate (fn.ntmps - rargs.size) undef).getD t undef = r := by
        rw [Array.getD_eq_getD_getElem?, Array.getElem?_append_left hlt]
        have : rargs[t]? = some r := by rw [← g1]; simp
        rw [this]; rfl
      rw [this]; exact g2
    · unfold VR; trivial
  · rintro e a' w' ⟨s', ρ', q1, q2, q3⟩
    have fin : (vresults P s' fn.results.toList fun l => Fin h.length v h' (vtuple l) s') → ∃ r, (results fn a'.tmps).run P w' = .ok r w' ∧ (∃ r' ρ', Ending.returned r = .returned r' ∧ VR ρ' (· < h'.length) w' v r' ∧ MemRel ρ' (· < h'.length) (getH h') w' ∧ h.length ≤ h'.length ∧ (∀ b, b < h.length → ρ' b = ρ b) ∧ Frame ρ (getH h) w ρ' (getH h') w') := fun q => by
      obtain ⟨v1, r, g1, g2, g3⟩ := results_sound q2 q
      obtain ⟨ρ2, k1, k2, k3, k4⟩ := g1.2 ρ' w' r g2 q2.mem q3.1
      exact ⟨r, g3, r, ρ2, rfl, k1, k2, g1.1, fun b hb => (k3 b hb).trans (q3.2.1 b hb), q3.2.2.less k4⟩
    cases e
    case normal => exact ⟨q2.tmps.defers, fin q1⟩
    case ret => exact ⟨q2.tmps.defers, fin q1⟩
    all_goals exact q1.elim
end Go.Vm
end
section
namespace Go.Vm
open Go Go.RowKit
mutual
/-- No slice lies in it. -/
def V.flat : V → Bool
  | .slice _ _ _ _ => false
  | .fn _ fs cs => flats fs && flats cs
  | .agg cs => flats cs
  | .tup cs => flats cs
  | .iface _ v => v.flat
  | _ => true
def flats : List V → Bool
  | [] => true
  | v :: l => v.flat && flats l
end
theorem flats_get : ∀ {l : List V} {i : Nat} {v : V}, flats l = true → l[i]? = some v → v.flat = true
  | [], i, v, _, h => by simp at h
  | x :: l, 0, v, hf, h => by
    unfold flats at hf
    simp at h; subst h
    exact (Bool.and_eq_true_iff.1 hf).1
  | x :: l, i + 1, v, hf, h => by
    unfold flats at hf
    exact flats_get (Bool.and_eq_true_iff.1 hf).2 (by simpa using h)
theorem flats_u8 : ∀ (l : List (BitVec 8)), flats (l.map .u8) = true
  | [] => rfl
  | x :: l => by rw [List.map_cons]; unfold flats; rw [flats_u8 l]; rfl
section
variable {ρ : Nat → Nat × Nat} {dom : Nat → Prop} {w w' : World}
mutual
theorem VR.flat : ∀ {v : V} {r : Value}, VR ρ dom w v r → v.flat = true → VR ρ dom w' v r
  | .junk, _, _, _ => by unfold VR; trivial
  | .bool _, _, h, _ => by unfold VR at *; exact h
  | .u8 _, _, h, _ => by unfold VR at *; exact h
  | .u32 _, _, h, _ => by unfold VR at *; exact h
  | .u64 _, _, h, _ => by unfold VR at *; exact h
  | .i64 _, _, h, _ => by unfold VR at *; exact h
  | .i32 _, _, h, _ => by unfold VR at *; exact h
  | .str _, _, h, _ => by unfold VR at *; exact h
  | .ptr b _, _, h, _ => by unfold VR at *; exact h
  | .nilPtr, _, h, _ => by unfold VR at *; exact h
  | .slice _ _ _ _, _, _, hf => by unfold V.flat at hf; cases hf
  | .nilSlice, _, h, _ => by unfold VR at *; exact h
  | .fn _ fs cs, _, h, hf => by
    unfold V.flat at hf; unfold VR at *
    obtain ⟨f', c', h1, h2, h3⟩ := h
    exact ⟨f', c', h1, VRs.flat h2 (Bool.and_eq_true_iff.1 hf).1, VRs.flat h3 (Bool.and_eq_true_iff.1 hf).2⟩
  | .nilFn, _, h, _ => by unfold VR at *; exact h
  | .aFn _ _, _, h, _ => by unfold VR at *; exact h
  | .agg cs, _, h, hf => by
    unfold V.flat at hf; unfold VR at *
    obtain ⟨a, h1, h2⟩ := h
    exact ⟨a, h1, VRs.flat h2 hf⟩
  | .tup cs, _, h, hf => by
    unfold V.flat at hf; unfold VR at *
    obtain ⟨a, h1, h2⟩ := h
    exact ⟨a, h1, VRs.flat h2 hf⟩
  | .iface _ v, _, h, hf => by
    unfold V.flat at hf; unfold VR at *
    obtain ⟨r', h1, h2⟩ := h
    exact ⟨r', h1, VR.flat h2 hf⟩
  | .nilIface, _, h, _ => by unfold VR at *; exact h
theorem VRs.flat : ∀ {vs : List V} {rs : List Value}, VRs ρ dom w vs rs → flats vs = true → VRs ρ dom w' vs rs
  | [], _, h, _ => by unfold VRs at *; exact h
  | v :: vs, _, h, hf => by
    unfold flats at hf; unfold VRs at *
    obtain ⟨r, rs, h1, h2, h3⟩ := h
    exact ⟨r, rs, h1, VR.flat h2 (Bool.and_eq_true_iff.1 hf).1, VRs.flat h3 (Bool.and_eq_true_iff.1 hf).2⟩
end
end
/-- The state's slots and blocks hold no slice. -/
def slotsFlat (l : List (Nat × V)) : Bool := l.all fun p => p.2.flat
def blksFlat : List (Option Blk) → Bool
  | [] => true
  | none :: l => blksFlat l
  | some B :: l => flats B.cs && blksFlat l
theorem slotsFlat_look : ∀ {l : List (Nat × V)}, slotsFlat l = true → ∀ t, (lookS l t).flat = true
  | [], _, _ => rfl
  | p :: l, h, t => by
    unfold slotsFlat at h
    simp only [List.all_cons, Bool.and_eq_true] at h
    unfold lookS
    split
    · exact h.1
    · exact slotsFlat_look (l := l) h.2 t
theorem blksFlat_get : ∀ {l : List (Option Blk)} {b : Nat} {B : Blk}, blksFlat l = true → getH l b = some B → flats B.cs = true
  | [], _, _, _, h => by simp [getH] at h
  | none :: l, 0, B, hf, h => by simp [getH] at h
  | some C :: l, 0, B, hf, h => by
    unfold blksFlat at hf
    simp [getH] at h; subst h
    exact (Bool.and_eq_true_iff.1 hf).1
  | none :: l, b + 1, B, hf, h => by
    unfold blksFlat at hf
    exact blksFlat_get hf (by simpa [getH] using h)
  | some C :: l, b + 1, B, hf, h => by
    unfold blksFlat at hf
    exact blksFlat_get (Bool.and_eq_true_iff.1 hf).2 (by simpa [getH] using h)
/-- The blocks that are spoken of have numbers of L. -/
def onlyAt (L : List Nat) : List (Option Blk) → Nat → Prop
  | [], _ => True
  | none :: l, i => onlyAt L l (i + 1)
  | some _ :: l, i => i ∈ L ∧ onlyAt L l (i + 1)
theorem onlyAt_get {L : List Nat} : ∀ {l : List (Option Blk)} {i b : Nat} {B : Blk}, onlyAt L l i → getH l b = some B → i + b ∈ L
  | [], _, _, _, _, h => by simp [getH] at h
  | none :: l, i, 0, B, _, h => by simp [getH] at h
  | some C :: l, i, 0, B, hk, h => hk.1
  | none :: l, i, b + 1, B, hk, h => by
    have := onlyAt_get (l := l) (i := i + 1) (b := b) hk (by simpa [getH] using h)
    rw [show i + (b + 1) = i + 1 + b by omega]; exact this
  | some C :: l, i, b + 1, B, hk, h => by
    have := onlyAt_get (l := l) (i := i + 1) (b := b) hk.2 (by simpa [getH] using h)
    rw [show i + (b + 1) = i + 1 + b by omega]; exact this
/-- The bytes as the machine's cells. -/
def cellsOf (l : List Byte) : List Value := Lib.byteCells (l.map UInt8.ofBitVec)
theorem cellsOf_str (l : List Byte) (s : ByteArray) : cellsOf l ++ Lib.strCells s = cellsOf (l ++ bytesOf s) := by
  unfold cellsOf
  rw [Lib.strCells_eq, ← Lib.byteCells_append, List.map_append]
  congr 2
  unfold bytesOf
  simp only [List.map_map]
  conv => lhs; rw [← List.map_id s.data.toList]
  exact List.map_congr_left fun _ _ => rfl
theorem cellsOf_length (l : List Byte) : (cellsOf l).length = l.length := by unfold cellsOf; rw [Lib.byteCells_length, List.length_map]
/-- The block b is a builder that holds the bytes l; all its own lies from 'base' on, the blocks L below. -/
structure Bld (T e : TypeId) (base b : Nat) (L : List Nat) (l : List Byte) (ρ : Nat → Nat × Nat) (s : St) (w : World) : Prop where
  lt : b < s.H.length
  zero : (ρ b).2 = 0
  here : Lib.IsBuilder T e base (ρ b).1 (cellsOf l) w
  size : base ≤ w.heap.size
  low : ∀ x ∈ L, (ρ x).1 < base
theorem builder_keep {T e : TypeId} {base b : Nat} {bs : List Value} {w w' : World} (h : Lib.IsBuilder T e base b bs w) (hk : ∀ r, base ≤ r → r < w.heap.size → w'.heap[r]? = w.heap[r]?) : Lib.IsBuilder T e base b bs w' := by
  have key : ∀ p, Lib.BuilderAt T e base b p bs w → Lib.BuilderAt T e base b p bs w' := by
    rintro p ⟨hB, v, hb, hown, hne⟩
    have hlt : ∀ r o, w.heap[r]? = some o → r < w.heap.size := fun r o h => (Array.getElem?_eq_some_iff.1 h).1
    refine ⟨hB, v, by rw [hk b hB (hlt _ _ hb)]; exact hb, ?_, hne⟩
    obtain ⟨h1, h2⟩ := hown
    refine ⟨h1, ?_⟩
    rcases h2 with h2 | ⟨g, cap, cur, g1, g2, g3, g4⟩
    · exact .inl h2
    · exact .inr ⟨g, cap, cur, g1, g2, by rw [hk g g2 (hlt _ _ g3)]; exact g3, g4⟩
  exact h.elim (fun x => .inl (key _ x)) (fun x => .inr (key _ x))
section
variable {P : Program} {m n : Nat} {T e : TypeId} {base b : Nat} {L : List Nat} {m0 : Nat} {ρ0 : Nat → Nat × Nat} {s0 : St} {w0 : World}
theorem Bld.step {ρ ρ' : Nat → Nat × Nat} {s s' : St} {w w' : World} {l : List Byte} (h : Bld T e base b L l ρ s w) (k : Step m ρ s w ρ' s' w') (hb : b < m) (hL : ∀ x ∈ L, x < m) (hk : onlyAt L s.H 0) : Bld T e base b L l ρ' s' w' := by
  obtain ⟨k1, k2, k3⟩ := k
  have e := k2 b hb
  refine ⟨by omega, by rw [e]; exact h.zero, ?_, Nat.le_trans h.size k3.size, fun x hx => by rw [k2 x (hL x hx)]; exact h.low x hx⟩
  rw [e]
  refine builder_keep h.here fun r h1 h2 => k3.keep r h2 fun x B hx _ => ?_
  have := onlyAt_get hk hx
  rw [Nat.zero_add] at this
  have := h.low x this
  omega
theorem below_rel {ρ : Nat → Nat × Nat} {s : St} {a : Act} {w w' : World} (hr : RelSt ρ n s a w) (ht : slotsFlat s.t = true) (hH : blksFlat s.H = true) (hlow : ∀ x B, getH s.H x = some B → (ρ x).1 < base) (hsz : base ≤ w.heap.size) (hb : Below base w w') : RelSt ρ n s a w' := by
  refine ⟨⟨hr.tmps.size, hr.tmps.defers, fun t => (hr.tmps.slot t).flat (slotsFlat_look ht t)⟩, hr.mem.has, fun x B hx => Nat.lt_of_lt_of_le (hr.mem.lt x B hx) hb.size, hr.mem.inj, fun x B hx i v hv => ?_, fun x B hx ho i hi => ?_⟩
  · obtain ⟨r, g1, g2⟩ := hr.mem.cell x B hx i v hv
    exact ⟨r, by rw [hb.cell (hlow x B hx)]; exact g1, g2.flat (flats_get (blksFlat_get hH hx) hv)⟩
  · rw [hb.frozen (hlow x B hx)]
    exact hr.mem.free x B hx ho i hi
theorem below_step {ρ : Nat → Nat × Nat} {s : St} {w w' : World} (h : Step m0 ρ0 s0 w0 ρ s w) (hsz : w0.heap.size ≤ base) (hb : Below base w w') : Step m0 ρ0 s0 w0 ρ s w' := by
  obtain ⟨h1, h2, h3⟩ := h
  refine ⟨h1, h2, hb.os.trans h3.os, hb.output.trans h3.output, hb.tape.trans h3.tape, Nat.le_trans h3.size hb.size, fun r hr hn => ?_, fun p o hp => ?_, h3.own⟩
  · rw [hb.block r (by omega)]; exact h3.keep r hr hn
  · have hlt : p < w0.heap.size := by
      obtain ⟨u, hu⟩ := Option.isSome_iff_exists.1 hp
      exact World.block_lt_of_cell? (a := ⟨p, o, none⟩) w0 hu
    have := h3.lasts p o hp
    rw [hb.cell (p := ⟨p, o, none⟩) (by show p < base; omega), hb.frozen (p := ⟨p, o, none⟩) (by show p < base; omega)]
    exact this
/-- The machine's words: ended as Q says, the builder still there. -/
def BQ (n m : Nat) (T e : TypeId) (base b : Nat) (L : List Nat) (m0 : Nat) (ρ0 : Nat → Nat × Nat) (s0 : St) (w0 : World) (Q : Exit → St → List Byte → Prop) (x : Exit) (a' : Act) (w' : World) : Prop :=
  ∃ s' ρ' l', Q x s' l' ∧ RelSt ρ' n s' a' w' ∧ m ≤ s'.H.length ∧ Step m0 ρ0 s0 w0 ρ' s' w' ∧ Bld T e base b L l' ρ' s' w'
/-- What is to be shown of a piece of code beside which a builder is held. -/
def GB (P : Program) (m n : Nat) (T e : TypeId) (base b : Nat) (L : List Nat) (m0 : Nat) (ρ0 : Nat → Nat × Nat) (s0 : St) (w0 : World) (c : Code) (Q : Exit → St → List Byte → Prop) (s : St) (l : List Byte) : Prop :=
  ∀ (ρ : Nat → Nat × Nat) (a : Act) (w : World), RelSt ρ n s a w → m ≤ s.H.length → Step m0 ρ0 s0 w0 ρ s w → Bld T e base b L l ρ s w → c.wp P (BQ n m T e base b L m0 ρ0 s0 w0 Q) a w
/-- .. of the last piece: the builder is not spoken of at its end. -/
def GF (P : Program) (m n : Nat) (T e : TypeId) (base b : Nat) (L : List Nat) (m0 : Nat) (ρ0 : Nat → Nat × Nat) (s0 : St) (w0 : World) (c : Code) (Q : Exit → St → Prop) (s : St) (l : List Byte) : Prop :=
  ∀ (ρ : Nat → Nat × Nat) (a : Act) (w : World), RelSt ρ n s a w → m ≤ s.H.length → Step m0 ρ0 s0 w0 ρ s w → Bld T e base b L l ρ s w → c.wp P (LiftE m0 n ρ0 s0 w0 Q) a w
def seqB (K : St → List Byte → Prop) (Q : Exit → St → List Byte → Prop) : Exit → St → List Byte → Prop
  | .normal, s, l => K s l
  | e, s, l => Q e s l
def bldQ (id : Nat) (Q : Exit → St → List Byte → Prop) : Exit → St → List Byte → Prop
  | .exit i, s, l => if i = id then Q .normal s l else Q (.exit i) s l
  | e, s, l => Q e s l
def onlyN (K : St → List Byte → Prop) : Exit → St → List Byte → Prop
  | .normal, s, l => K s l
  | _, _, _ => False
theorem Step.cut {ρ ρ' : Nat → Nat × Nat} {s s' : St} {w w' : World} (h : Step m ρ s w ρ' s' w') (hm : m0 ≤ m) : Step m0 ρ s w ρ' s' w' := ⟨Nat.le_trans hm h.1, fun x hx => h.2.1 x (by omega), h.2.2⟩
theorem gb_vc (hmix : P.follows .mixedOrders = true) (hb : b < m) (hL : ∀ x ∈ L, x < m) (hm0 : m0 ≤ m) {c : Code} {Q : Exit → St → List Byte → Prop} {s : St} {l : List Byte} (hk : onlyAt L s.H 0)
    (h : vc P m n c (fun x s' => Q x s' l) s) : GB P m n T e base b L m0 ρ0 s0 w0 c Q s l := fun ρ a w hr hm hs hB => by
  refine wp_mono (vc_sound hmix c _ s h ρ a w hr hm) ?_
  rintro x a' w' ⟨s', ρ', q1, q2, q3⟩
  exact ⟨s', ρ', l, q1, q2, q3.1, hs.trans (q3.cut hm0), hB.step q3 hb hL hk⟩
theorem gb_weak (hb : b < m) (hL : ∀ x ∈ L, x < m) (hm0 : m0 ≤ m) {c : Code} {Q : Exit → St → List Byte → Prop} {s s1 : St} {l : List Byte} (hk : onlyAt L s.H 0)
    (h : GB P m n T e base b L m0 ρ0 s0 w0 c Q s1 l) (hw : Weak m n s s1) : GB P m n T e base b L m0 ρ0 s0 w0 c Q s l := fun ρ a w hr hm hs hB => by
  obtain ⟨ρ', h1, h2⟩ := hw ρ a w hr hm
  exact h ρ' a w h1 h2.1 (hs.trans (h2.cut hm0)) (hB.step h2 hb hL hk)
theorem gf_weak (hb : b < m) (hL : ∀ x ∈ L, x < m) (hm0 : m0 ≤ m) {c : Code} {Q : Exit → St → Prop} {s s1 : St} {l : List Byte} (hk : onlyAt L s.H 0)
    (h : GF P m n T e base b L m0 ρ0 s0 w0 c Q s1 l) (hw : Weak m n s s1) : GF P m n T e base b L m0 ρ0 s0 w0 c Q s l := fun ρ a w hr hm hs hB => by
  obtain ⟨ρ', h1, h2⟩ := hw ρ a w hr hm
  exact h ρ' a w h1 h2.1 (hs.trans (h2.cut hm0)) (hB.step h2 hb hL hk)
theorem gb_seq {x y : Code} {K : St → List Byte → Prop} {Q : Exit → St → List Byte → Prop} {s : St} {l : List Byte} (hx : GB P m n T e base b L m0 ρ0 s0 w0 x (seqB K Q) s l) (hy : ∀ s' l', K s' l' → GB P m n T e base b L m0 ρ0 s0 w0 y Q s' l') : GB P m n T e base b L m0 ρ0 s0 w0 (.seq x y) Q s l := fun ρ a w hr hm hs hB => by
  refine wp_seq (wp_mono (hx ρ a w hr hm hs hB) ?_)
  rintro z a' w' ⟨s', ρ', l', q1, q2, q3, q4, q5⟩
  cases z
  case normal => exact hy s' l' q1 ρ' a' w' q2 q3 q4 q5
  all_goals exact ⟨s', ρ', l', q1, q2, q3, q4, q5⟩
theorem gf_seq {x y : Code} {K : St → List Byte → Prop} {Q : Exit → St → Prop} {s : St} {l : List Byte} (hx : GB P m n T e base b L m0 ρ0 s0 w0 x (onlyN K) s l) (hy : ∀ s' l', K s' l' → GF P m n T e base b L m0 ρ0 s0 w0 y Q s' l') : GF P m n T e base b L m0 ρ0 s0 w0 (.seq x y) Q s l := fun ρ a w hr hm hs hB => by
  refine wp_seq (wp_mono (hx ρ a w hr hm hs hB) ?_)
  rintro z a' w' ⟨s', ρ', l', q1, q2, q3, q4, q5⟩
  cases z
  case normal => exact hy s' l' q1 ρ' a' w' q2 q3 q4 q5
  all_goals exact q1.elim
theorem gb_block {id : Nat} {c : Code} {Q : Exit → St → List Byte → Prop} {s : St} {l : List Byte} (h : GB P m n T e base b L m0 ρ0 s0 w0 c (bldQ id Q) s l) : GB P m n T e base b L m0 ρ0 s0 w0 (.block id c) Q s l := fun ρ a w hr hm hs hB => by
  refine wp_block (wp_mono (h ρ a w hr hm hs hB) ?_)
  rintro z a' w' ⟨s', ρ', l', q1, q⟩
  cases z
  case exit i =>
    simp only [bldQ] at q1
    simp only [Exit.inBlock]
    split at q1
    · rename_i h; rw [if_pos h]; exact ⟨s', ρ', l', q1, q⟩
    · rename_i h; rw [if_neg h]; exact ⟨s', ρ', l', q1, q⟩
  all_goals exact ⟨s', ρ', l', q1, q⟩
theorem gb_loop {c : Code} {Q : Exit → St → List Byte → Prop} {s : St} {l : List Byte} (I : Nat → St → List Byte → Prop) {k0 : Nat} (h0 : I k0 s l)
    (hr : ∀ k s l, I k s l → GB P m n T e base b L m0 ρ0 s0 w0 c (seqB (fun s' l' => ∃ k', k' < k ∧ I k' s' l') Q) s l) : GB P m n T e base b L m0 ρ0 s0 w0 (.loop c) Q s l := fun ρ a w hr0 hm hs hB => by
  refine wp_loop_ix (fun k a1 w1 => ∃ s1 ρ1 l1, I k s1 l1 ∧ RelSt ρ1 n s1 a1 w1 ∧ m ≤ s1.H.length ∧ Step m0 ρ0 s0 w0 ρ1 s1 w1 ∧ Bld T e base b L l1 ρ1 s1 w1) (k0 := k0) ⟨s, ρ, l, h0, hr0, hm, hs, hB⟩ ?_
  rintro k a1 w1 ⟨s1, ρ1, l1, i1, i2, i3, i4, i5⟩
  refine wp_mono (hr k s1 l1 i1 ρ1 a1 w1 i2 i3 i4 i5) ?_
  rintro z a' w' ⟨s', ρ', l', q1, q2, q3, q4, q5⟩
  cases z
  case normal =>
    obtain ⟨k', hk, hi⟩ := q1
    exact ⟨k', hk, s', ρ', l', hi, q2, q3, q4, q5⟩
  all_goals exact ⟨s', ρ', l', q1, q2, q3, q4, q5⟩
end
end Go.Vm
end
section
namespace Go.Vm
open Go Go.RowKit
section
variable {P : Program} {m n : Nat} {T e : TypeId} {base b : Nat} {L : List Nat} {m0 : Nat} {ρ0 : Nat → Nat × Nat} {s0 : St} {w0 : World}
/-- What WriteString is known to do. -/
def Writes (P : Program) (f : FuncId) (T e : TypeId) : Prop := ∀ (B b : Nat) (bs : List Value) (s : ByteArray) (w : World), Lib.IsBuilder T e B b bs w → bs.length + s.size ≤ 140737488355328 → B ≤ w.heap.size →
  Calls P f #[.pointer (some ⟨b, 0, none⟩), .string s] w fun x w' => x = .returned (.tuple #[.int .i64 s.size, .nilIface]) ∧ (Lib.BuilderAt T e B b (.pointer (some ⟨b, 0, none⟩)) (bs ++ Lib.strCells s) w' ∧ Below B w w')
/-- What String is known to do. -/
def Strings (P : Program) (f : FuncId) (T e : TypeId) : Prop := ∀ (B b : Nat) (l : List UInt8) (w : World), Lib.IsBuilder T e B b (Lib.byteCells l) w → B ≤ w.heap.size →
  Calls P f #[.pointer (some ⟨b, 0, none⟩)] w fun x w' => x = .returned (.string ⟨l.toArray⟩) ∧ Below B w w'
theorem low_of {s : St} {ρ : Nat → Nat × Nat} {w : World} {l : List Byte} (h : Bld T e base b L l ρ s w) (hk : onlyAt L s.H 0) : ∀ x B, getH s.H x = some B → (ρ x).1 < base := fun x B hx => by
  have := onlyAt_get hk hx
  rw [Nat.zero_add] at this
  exact h.low x this
theorem slotsFlat_put {s : St} {d : Tmp} {v : V} (h : slotsFlat s.t = true) (hv : v.flat = true) : slotsFlat (s.put (some d) v).t = true := by
  show slotsFlat ((d, v) :: s.t) = true
  unfold slotsFlat at *
  rw [List.all_cons, hv, h]; rfl
theorem gb_write {f : FuncId} (hf : callable P f = true) (hw : Writes P f T e) (hsz : w0.heap.size ≤ base) {id : Nat} {o1 o2 : Oper} {x : Operand} {tb tz td : Tmp} {ats : Array TypeId} {s : St} {l y : List Byte} {Q : Exit → St → List Byte → Prop}
    (h1 : o1.op = .move x) (g1 : o1.guard = none) (d1 : o1.dst = some tz) (z1 : tz < n)
    (h2 : o2.op = .call ⟨.value (.func f), #[.tmp tb, .tmp tz], ats⟩) (g2 : o2.guard = none) (d2 : o2.dst = some td) (z2 : td < n)
    (hx : s.ev x = .str y) (hb : (s.put (some tz) (.str y)).get tb = .ptr b 0) (hlen : l.length + y.length ≤ 140737488355328)
    (ht : slotsFlat s.t = true) (hH : blksFlat s.H = true) (hk : onlyAt L s.H 0)
    (hq : Q .normal ((s.put (some tz) (.str y)).put (some td) (.tup [.i64 y.length, .nilIface])) (l ++ y)) : GB P m n T e base b L m0 ρ0 s0 w0 (.region id #[o1, o2] false) Q s l := by
  intro ρ a w hr hm hs hB
  have hxv := hr.tmps.eval x
  rw [hx] at hxv
  unfold VR at hxv
  obtain ⟨S, hS, hbs⟩ := hxv
  refine wp_region ?_
  have k1 : (execOp a.eval o1).run P w = .ok (.value (.string S)) w := by
    unfold execOp
    rw [h1]
    simp only [hS, Sem.run_bind, Result.andThen_ok, Sem.run_pure]
  have w1 : Region.wanted o1 (yielded #[o1, o2] a.tmps) = true := by unfold Region.wanted; rw [g1]
  show wpOps P #[o1, o2] _ [0, 1] a w
  simp only [wpOps, List.getElem?_toArray, List.getElem?_cons_zero, w1, if_true]
  refine .inl ?_
  unfold Oper.wp
  rw [k1, Oper.upon_value, d1]
  have hr1 : RelSt ρ n (s.put (some tz) (.str y)) (a.put (some tz) (.string S)) w := ⟨RelT.put hr.tmps (show dstOk n (some tz) from z1) (by unfold VR; exact ⟨S, rfl, hbs⟩), hr.mem⟩
  have w2 : Region.wanted o2 (yielded #[o1, o2] (a.put (some tz) (.string S)).tmps) = true := by unfold Region.wanted; rw [g2]
  have hz : (a.put (some tz) (.string S)).tmps.getD tz undef = .string S := by
    rw [put_tmps a tz _ tz (by rw [hr.tmps.size]; exact z1), if_pos rfl]
  have hbv := hr1.tmps.slot tb
  rw [hb] at hbv
  unfold VR at hbv
  obtain ⟨_, hbv⟩ := hbv
  rw [hB.zero, Nat.zero_add] at hbv
  have k2 : (execOp (a.put (some tz) (.string S)).eval o2).run P w = .ok (.enter f #[.pointer (some ⟨(ρ b).1, 0, none⟩), .string S]) w := by
    unfold execOp
    rw [h2]
    simp only [resolve, Act.eval, Deferred.ofValue, Sem.run_bind, Sem.run_pure, Result.andThen_ok, invoke, List.map_toArray, List.map_cons, List.map_nil, hz, hbv]
    rw [show (#[] ++ #[Value.pointer (some ⟨(ρ b).1, 0, none⟩), Value.string S] ++ #[] : Array Value) = #[.pointer (some ⟨(ρ b).1, 0, none⟩), .string S] from rfl, run_callFunc hf]
  simp only [List.getElem?_cons_succ, List.getElem?_cons_zero, w2, if_true]
  refine .inl ?_
  rw [k2, Oper.upon_enter]
  have hS2 : S.size = y.length := by rw [← hbs, bytesOf_length]
  refine (hw base (ρ b).1 (cellsOf l) S w hB.here (by rw [cellsOf_length, hS2]; exact hlen) hB.size).mono ?_
  rintro z w' ⟨rfl, hbl, hbel⟩
  rw [d2]
  show BQ n m T e base b L m0 ρ0 s0 w0 Q .normal ((a.put (some tz) (.string S)).put (some td) _) w'
  have hr2 : RelSt ρ n (s.put (some tz) (.str y)) (a.put (some tz) (.string S)) w' := below_rel hr1 (slotsFlat_put ht rfl) hH (fun x B hx => low_of hB hk x B hx) hB.size hbel
  refine ⟨_, ρ, l ++ y, hq, ⟨RelT.put hr2.tmps (show dstOk n (some td) from z2) ?_, hr2.mem⟩, hm, below_step hs hsz hbel, hB.lt, hB.zero, .inr ?_, Nat.le_trans hB.size hbel.size, hB.low⟩
  · unfold VR
    refine ⟨_, rfl, VRs.cons (by unfold VR; rw [hS2]) (VRs.cons (by unfold VR; rfl) VRs.nil)⟩
  · rw [← hbs, ← cellsOf_str]; exact hbl
theorem gf_string {f : FuncId} (hf : callable P f = true) (hw : Strings P f T e) (hsz : w0.heap.size ≤ base) {id : Nat} {o1 o2 : Oper} {tb td te : Tmp} {ats : Array TypeId} {s : St} {l : List Byte} {c2 : Code} {Q : Exit → St → Prop}
    (h1 : o1.op = .call ⟨.value (.func f), #[.tmp tb], ats⟩) (g1 : o1.guard = none) (d1 : o1.dst = some td) (z1 : td < n)
    (h2 : o2.op = .assign (.tmp td)) (g2 : o2.guard = none) (d2 : o2.dst = some te) (z2 : te < n)
    (hb : s.get tb = .ptr b 0)
    (ht : slotsFlat s.t = true) (hH : blksFlat s.H = true) (hk : onlyAt L s.H 0) (hm0 : m0 ≤ m)
    (hq : GS P m0 n c2 Q ((s.put (some td) (.str l)).put (some te) (.str l))) : GF P m n T e base b L m0 ρ0 s0 w0 (.seq (.region id #[o1, o2] false) c2) Q s l := by
  intro ρ a w hr hm hs hB
  refine wp_seq (wp_region ?_)
  have w1 : Region.wanted o1 (yielded #[o1, o2] a.tmps) = true := by unfold Region.wanted; rw [g1]
  have hbv := hr.tmps.slot tb
  rw [hb] at hbv
  unfold VR at hbv
  obtain ⟨_, hbv⟩ := hbv
  rw [hB.zero, Nat.zero_add] at hbv
  have k1 : (execOp a.eval o1).run P w = .ok (.enter f #[.pointer (some ⟨(ρ b).1, 0, none⟩)]) w := by
    unfold execOp
    rw [h1]
    simp only [resolve, Act.eval, Deferred.ofValue, Sem.run_bind, Sem.run_pure, Result.andThen_ok, invoke, List.map_toArray, List.map_cons, List.map_nil, hbv]
    rw [show (#[] ++ #[Value.pointer (some ⟨(ρ b).1, 0, none⟩)] ++ #[] : Array Value) = #[.pointer (some ⟨(ρ b).1, 0, none⟩)] from rfl, run_callFunc hf]
  show wpOps P #[o1, o2] _ [0, 1] a w
  simp only [wpOps, List.getElem?_toArray, List.getElem?_cons_zero, w1, if_true]
  refine .inl ?_
  unfold Oper.wp
  rw [k1, Oper.upon_enter]
  refine (hw base (ρ b).1 (l.map UInt8.ofBitVec) w hB.here hB.size).mono ?_
  rintro z w' ⟨rfl, hbel⟩
  rw [d1]
  have hr2 : RelSt ρ n s a w' := below_rel hr ht hH (low_of hB hk) hB.size hbel
  have hst : VR ρ (· < s.H.length) w' (.str l) (.string ⟨(l.map UInt8.ofBitVec).toArray⟩) := by
    unfold VR
    exact ⟨_, rfl, bytesOf_strOf l⟩
  have hr3 : RelSt ρ n (s.put (some td) (.str l)) (a.put (some td) (.string ⟨(l.map UInt8.ofBitVec).toArray⟩)) w' := ⟨RelT.put hr2.tmps (show dstOk n (some td) from z1) hst, hr2.mem⟩
  have w2 : Region.wanted o2 (yielded #[o1, o2] (a.put (some td) (.string ⟨(l.map UInt8.ofBitVec).toArray⟩)).tmps) = true := by unfold Region.wanted; rw [g2]
  have hz : (a.put (some td) (.string ⟨(l.map UInt8.ofBitVec).toArray⟩)).tmps.getD td undef = .string ⟨(l.map UInt8.ofBitVec).toArray⟩ := by
    rw [put_tmps a td _ td (by rw [hr.tmps.size]; exact z1), if_pos rfl]
  have k2 : (execOp (a.put (some td) (.string ⟨(l.map UInt8.ofBitVec).toArray⟩)).eval o2).run P w' = .ok (.value (.string ⟨(l.map UInt8.ofBitVec).toArray⟩)) w' := by
    unfold execOp
    rw [h2]
    simp only [Act.eval, hz, Sem.run_bind, Result.andThen_ok, Sem.run_pure]
  simp only [List.getElem?_cons_succ, List.getElem?_cons_zero, w2, if_true]
  refine .inl ?_
  rw [k2, Oper.upon_value, d2]
  have hr4 : RelSt ρ n ((s.put (some td) (.str l)).put (some te) (.str l)) ((a.put (some td) (.string ⟨(l.map UInt8.ofBitVec).toArray⟩)).put (some te) (.string ⟨(l.map UInt8.ofBitVec).toArray⟩)) w' := ⟨RelT.put hr3.tmps (show dstOk n (some te) from z2) hst, hr3.mem⟩
  have hs4 : Step m0 ρ0 s0 w0 ρ ((s.put (some td) (.str l)).put (some te) (.str l)) w' := below_step hs hsz hbel
  refine wp_mono (hq ρ _ w' hr4 (by show m0 ≤ s.H.length; omega)) ?_
  rintro z a' w'' ⟨s', ρ', q1, q2, q3⟩
  exact ⟨s', ρ', q1, q2, hs4.trans q3⟩
theorem alloc_start {ρ : Nat → Nat × Nat} {s : St} {a : Act} {w : World} {tit : Tmp} (hr : RelSt ρ n s a w) (hm : m0 ≤ s.H.length) (ht : tit < n) (o : Obj) :
    let ρ1 := fun k => if k = s.H.length then (w.heap.size, 0) else ρ k
    let s1 : St := ⟨putS s.t (some tit) (.ptr s.H.length 0), s.H ++ [none]⟩
    RelSt ρ1 n s1 (a.put (some tit) (.pointer (some ⟨w.heap.size, 0, none⟩))) (w.alloc o) ∧ Step m0 ρ s w ρ1 s1 (w.alloc o) := by
  intro ρ1 s1
  have hlen : s1.H.length = s.H.length + 1 := by simp [s1]
  have hget : ∀ b B, getH s1.H b = some B → getH s.H b = some B ∧ b < s.H.length := fun b B hB => by
    have hB : ((s.H ++ [none])[b]?).join = some B := hB
    by_cases hb : b < s.H.length
    · rw [List.getElem?_append_left hb] at hB; exact ⟨hB, hb⟩
    · rw [List.getElem?_append_right (by omega)] at hB
      by_cases hb2 : b - s.H.length = 0
      · rw [hb2] at hB; simp at hB
      · rw [List.getElem?_eq_none (by simp; omega)] at hB; simp at hB
  have hρ : ∀ b, b < s.H.length → ρ1 b = ρ b := fun b hb => if_neg (by omega)
  have hlast : Lasts w (w.alloc o) := lasts_alloc w _
  have hold : ∀ r, r < w.heap.size → (w.alloc o).heap[r]? = w.heap[r]? := fun r h => Lib.alloc_old w _ r h
  have hsize : (w.alloc o).heap.size = w.heap.size + 1 := Array.size_push ..
  have hcell : ∀ b B, getH s.H b = some B → ∀ i, (w.alloc o).cell? ⟨(ρ b).1, i, none⟩ = w.cell? ⟨(ρ b).1, i, none⟩ := fun b B hB i => World.cell?_of_block (hold _ (hr.mem.lt b B hB))
  have hfroz : ∀ b B, getH s.H b = some B → ∀ i, (w.alloc o).frozen? ⟨(ρ b).1, i, none⟩ = w.frozen? ⟨(ρ b).1, i, none⟩ := fun b B hB i => World.frozen?_of_block (hold _ (hr.mem.lt b B hB))
  have hdom : ∀ b, b < s.H.length → b < s1.H.length := fun b hb => by omega
  refine ⟨⟨?_, ?_⟩, ⟨by omega, fun b hb => hρ b (by omega), ?_⟩⟩
  · refine RelT.put (hr.tmps.mono hρ hdom hlast) (show dstOk n (some tit) from ht) ?_
    unfold VR
    refine ⟨by omega, ?_⟩
    show _ = Value.pointer (some ⟨(ρ1 s.H.length).1, (ρ1 s.H.length).2 + 0, none⟩)
    have e : ρ1 s.H.length = (w.heap.size, 0) := if_pos rfl
    rw [e]
  · refine ⟨fun b B hB => hdom b (hget b B hB).2, fun b B hB => ?_, fun b b' B B' hB hB' hro hne => ?_, fun b B hB i v hv => ?_, fun b B hB ho i hi => ?_⟩
    · obtain ⟨h1, h2⟩ := hget b B hB
      rw [hρ b h2, hsize]
      have := hr.mem.lt b B h1
      omega
    · obtain ⟨h1, h2⟩ := hget b B hB
      obtain ⟨h3, h4⟩ := hget b' B' hB'
      rw [hρ b h2, hρ b' h4]
      exact hr.mem.inj b b' B B' h1 h3 hro hne
    · obtain ⟨h1, h2⟩ := hget b B hB
      obtain ⟨r, g1, g2⟩ := hr.mem.cell b B h1 i v hv
      exact ⟨r, by rw [hρ b h2, hcell b B h1]; exact g1, g2.mono hρ hdom hlast⟩
    · obtain ⟨h1, h2⟩ := hget b B hB
      rw [hρ b h2, hfroz b B h1]
      exact hr.mem.free b B h1 ho i hi
  · refine ⟨rfl, rfl, rfl, by omega, fun r hr2 _ => hold r hr2, hlast, fun b B hB ho => ?_⟩
    obtain ⟨h1, h2⟩ := hget b B hB
    exact .inl ⟨b, B, h1, ho, by rw [hρ b h2]⟩
theorem gs_builder (hz : ∀ w, (zeroValue T).run P w = .ok (.agg #[.pointer none, .slice none 0 0]) w) {id : Nat} {o : Oper} {td : Tmp} {c2 : Code} {s : St} {Q : Exit → St → Prop}
    (h1 : o.op = .alloc T) (g1 : o.guard = none) (d1 : o.dst = some td) (z1 : td < n) (hL : ∀ x ∈ L, (getH s.H x).isSome = true)
    (h : ∀ (ρ0 : Nat → Nat × Nat) (w0 : World), GF P (s.H.length + 1) n T e w0.heap.size s.H.length L m0 ρ0 s w0 c2 Q ⟨putS s.t (some td) (.ptr s.H.length 0), s.H ++ [none]⟩ []) : GS P m0 n (.seq (.region id #[o] false) c2) Q s := by
  intro ρ a w hr hm
  refine wp_seq (wp_region ?_)
  have w1 : Region.wanted o (yielded #[o] a.tmps) = true := by unfold Region.wanted; rw [g1]
  show wpOps P #[o] _ [0] a w
  simp only [wpOps, List.getElem?_toArray, List.getElem?_cons_zero, w1, if_true]
  refine .inl ?_
  have k1 : (execOp a.eval o).run P w = .ok (.value (.pointer (some ⟨w.heap.size, 0, none⟩))) (w.alloc (.cells #[.pointer none, .slice none 0 0] T)) := by
    unfold execOp
    rw [h1]
    simp [Instr.alloc, hz, newVar, newRow, Value.cells]
  unfold Oper.wp
  rw [k1, Oper.upon_value, d1]
  obtain ⟨i1, i2⟩ := alloc_start (m0 := m0) hr hm z1 (.cells #[.pointer none, .slice none 0 0] T)
  have e0 : (fun k => if k = s.H.length then (w.heap.size, 0) else ρ k) s.H.length = (w.heap.size, 0) := if_pos rfl
  refine h ρ w _ _ _ i1 (by simp) i2 ⟨by simp, by rw [if_pos rfl], ?_, ?_, fun x hx => ?_⟩
  · rw [if_pos rfl]
    exact Lib.fresh_isBuilder T e w
  · show w.heap.size ≤ (w.heap.push _).size
    rw [Array.size_push]; omega
  · obtain ⟨B, hB⟩ := Option.isSome_iff_exists.1 (hL x hx)
    have hne : x ≠ s.H.length := by have := getH_lt hB; omega
    show ((if x = s.H.length then (w.heap.size, 0) else ρ x) : Nat × Nat).1 < _
    rw [if_neg hne]
    exact hr.mem.lt x B hB
end
end Go.Vm
end
section
namespace Go.Vm
open Go.Proofs
set_option maxRecDepth 20000
/-- The key's blocks from the second on, i of them. -/
def stm (E : Nat → List (BitVec 8)) : Nat → List (BitVec 8)
  | 0 => []
  | i + 1 => stm E i ++ E (2 + i)
theorem stm_length (E : Nat → List (BitVec 8)) (hE : ∀ c, (E c).length = 16) (i : Nat) : (stm E i).length = 16 * i := by
  induction i with
  | zero => rfl
  | succ i ih => rw [stm, List.length_append, ih, hE]; omega
theorem writes_builder : Writes Tryz.prog 62 (shelf_lays156_ren.t 72) (shelf_lays156_ren.t 5) := fun B b bs s w h hl hB => Any.Builder_WriteString { shelf_lays156 with } shelf_Builder_Extra_156 B b bs s w h hl hB
theorem strings_builder : Strings Tryz.prog 64 (shelf_lays156_ren.t 72) (shelf_lays156_ren.t 5) := fun B b l w h hB => Any.Builder_String_any { shelf_lays156 with } shelf_Builder_Extra_156 B b l w h hB
theorem zero_builder : ∀ w, (zeroValue (shelf_lays156_ren.t 72)).run Tryz.prog w = .ok (.agg #[.pointer none, .slice none 0 0]) w := shelf_lays156.v72
/-- Behind i rounds: what is written; what is left. -/
theorem xored_step (E : Nat → List (BitVec 8)) (hE : ∀ c, (E c).length = 16) (t : List (BitVec 8)) (i : Nat) (h : 16 * i ≤ t.length) : xorB t (stm E i) ++ xorB (t.drop (16 * i)) (E (2 + i)) = xorB t (stm E (i + 1)) := by
  have hl := stm_length E hE i
  rw [stm, xorB_app t (stm E i) (E (2 + i)) (by omega), hl]
theorem xored_left (E : Nat → List (BitVec 8)) (hE : ∀ c, (E c).length = 16) (t : List (BitVec 8)) (i : Nat) : (t.drop (16 * i)).drop (xorB (t.drop (16 * i)) (E (2 + i))).length = t.drop (16 * (i + 1)) := by
  rw [xorB_length, hE, List.drop_drop, List.length_drop]
  by_cases h : t.length - 16 * i ≤ 16
  · rw [List.drop_eq_nil_of_le (by omega), List.drop_eq_nil_of_le (by omega)]
  · rw [Nat.min_eq_right (by omega)]; congr 1
theorem xored_spec (E : Nat → List (BitVec 8)) (hE : ∀ c, (E c).length = 16) (n K T t : List (BitVec 8)) (R : Nat) (hEe : ∀ c, E c = encS (n ++ beB c 4) K R (R - 1)) (hn : n.length = 12) (ht : t.length ≤ 2016) (hR : 2 ≤ R) (hR2 : R ≤ 20) (hK : K.length = 16 * R) (hT : T.length = 512) (hf : ∀ b : BitVec 8, T.getD (0 + b.toNat) 0 = subC b) :
    Spec0 Tryz.prog 136 [.agg [.ptr 0 0, .str n], .str t] [some ⟨false, [.ptr 1 0, .str K]⟩, some ⟨false, T.map .u8⟩] (.str (xorB t (stm E ((t.length + 15) / 16)))) [some ⟨false, [.ptr 1 0, .str K]⟩, some ⟨false, T.map .u8⟩] := by
  have hblk : ∀ c : Nat, c ≤ 100000 → Spec0 Tryz.prog 142 [.agg [.ptr 0 0, .str n], .i64 c] [some ⟨false, [.ptr 1 0, .str K]⟩, some ⟨false, T.map .u8⟩] (.str (E c)) [some ⟨false, [.ptr 1 0, .str K]⟩, some ⟨false, T.map .u8⟩] := fun c hc => by
    rw [hEe]
    exact gblock_spec n K T R c hn hc hR hR2 hK hT hf
  generalize hrd : (t.length + 15) / 16 = rd
  have hrd1 : t.length ≤ 16 * rd := by omega
  have hrd2 : 16 * rd ≤ t.length + 15 := by omega
  have hflT := flats_u8 T
  refine spec0_of_gs (fn := Tryz.f136) Tryz.func136 rfl (by show 2 ≤ 24; decide) ?_
  refine gs_seq (K := fun st => Weak 2 24 st ⟨[(1, .str t), (2, .ptr 2 0)], [some ⟨false, [.ptr 1 0, .str K]⟩, some ⟨false, T.map .u8⟩, some ⟨false, [.ptr 0 0, .str n]⟩]⟩) (gs_of_vc (by kernel_rfl) (go_start ?_)) (fun st hst => gs_weak ?_ hst)
  · simp only [go_sem, ↓reduceIte, Nat.reduceLT, Nat.reduceAdd]
    refine Weak.drop ?_ rfl (fun _ _ h => h)
    simp [St.get, lookS]
  refine gs_builder (L := [0, 1, 2]) (e := shelf_lays156_ren.t 5) zero_builder rfl rfl rfl (by decide) (by simp [getH]) (fun ρ0 w0 => ?_)
  show GF Tryz.prog 4 24 (shelf_lays156_ren.t 72) (shelf_lays156_ren.t 5) w0.heap.size 3 [0, 1, 2] 2 ρ0 _ w0 _ _ _ _
  let J : Nat → St := fun i => ⟨[(1, .str (t.drop (16 * i))), (2, .ptr 2 0), (5, .ptr 3 0), (6, .i64 (2 + i : Nat))], [some ⟨false, [.ptr 1 0, .str K]⟩, some ⟨false, T.map .u8⟩, some ⟨false, [.ptr 0 0, .str n]⟩, none]⟩
  refine gf_seq (K := fun st l => onlyAt [0, 1, 2] st.H 0 ∧ l = xorB t (stm E rd) ∧ Weak 4 24 st ⟨[(5, .ptr 3 0)], [some ⟨false, [.ptr 1 0, .str K]⟩, some ⟨false, T.map .u8⟩, some ⟨false, [.ptr 0 0, .str n]⟩, none]⟩) ?_ (fun st l hst => ?_)
  rotate_left
  · obtain ⟨k1, rfl, k2⟩ := hst
    refine gf_weak (by decide) (by decide) (by decide) k1 ?_ k2
    refine gf_string (by kernel_rfl) strings_builder (Nat.le_refl _) rfl rfl rfl (by decide) rfl rfl rfl (by decide) rfl rfl (by simp [blksFlat, flats, V.flat, hflT]) (by simp [onlyAt]) (by decide) ?_
    refine gs_of_vc (by kernel_rfl) (go_start ?_)
    simp only [go_sem, ↓reduceIte, Nat.reduceAdd]
    exact Fin.ren [0, 1] (by simp) (by simp) (by rfl) (by decide) (by simp [-List.map_map, -List.map_set]) (by simp [-List.map_map, -List.map_set])
  refine gb_seq (K := fun st l => onlyAt [0, 1, 2] st.H 0 ∧ l = [] ∧ Weak 4 24 st (J 0)) (gb_vc (by kernel_rfl) (by decide) (by decide) (by decide) (by simp [onlyAt]) (go_start ?_)) (fun st l hst => ?_)
  · simp only [go_sem, Nat.reduceLT, Nat.reduceAdd]
    refine ⟨by simp [onlyAt], rfl, Weak.drop ?_ rfl (fun _ _ h => h)⟩
    simp [St.get, lookS, putS, J]
  obtain ⟨k1, rfl, k2⟩ := hst
  refine gb_weak (by decide) (by decide) (by decide) k1 ?_ k2
  refine gb_block (gb_loop (I := fun k st l => ∃ i, i + k = rd ∧ onlyAt [0, 1, 2] st.H 0 ∧ Weak 4 24 st (J i) ∧ l = xorB t (stm E i)) (k0 := rd) ⟨0, by omega, by simp [onlyAt, J], Weak.refl _ _ _, by simp [stm, xorB]⟩ ?_)
  rintro k st l ⟨i, hik, k1, k2, rfl⟩
  refine gb_weak (by decide) (by decide) (by decide) k1 ?_ k2
  clear k1 k2
  refine gb_seq (K := fun st l => onlyAt [0, 1, 2] st.H 0 ∧ l = xorB t (stm E i) ∧ 16 * i < t.length ∧ Weak 4 24 st (J i)) (gb_vc (by kernel_rfl) (by decide) (by decide) (by decide) (by simp [onlyAt, J]) (go_start ?_)) (fun st l hst => ?_)
  · by_cases h0 : 16 * i < t.length
    · have hne : (t.drop (16 * i) = []) = False := eq_false (fun h => by have := congrArg List.length h; rw [List.length_drop] at this; simp at this; omega)
      simp only [go_sem, ↓reduceIte, Nat.reduceLT, J, hne]
      refine ⟨by simp [onlyAt], rfl, h0, Weak.drop ?_ rfl (fun _ _ h => h)⟩
      simp [St.get, lookS]
    · have hie : i = rd := by omega
      have hne : (t.drop (16 * i) = []) = True := eq_true (List.drop_eq_nil_of_le (by omega))
      simp only [go_sem, ↓reduceIte, Nat.reduceLT, J, hne]
      refine ⟨by simp [onlyAt], by rw [hie], Weak.drop ?_ rfl (fun _ _ h => h)⟩
      simp [St.get, lookS]
  obtain ⟨k1, rfl, h0, k2⟩ := hst
  refine gb_weak (by decide) (by decide) (by decide) k1 ?_ k2
  clear k1 k2
  have hdl : (t.drop (16 * i)).length = t.length - 16 * i := List.length_drop
  have hX := Xor_spec (t.drop (16 * i)) (E (2 + i)) (by omega) (by rw [hE]; omega)
  have hB := hblk (2 + i) (by omega)
  have hpl : (xorB (t.drop (16 * i)) (E (2 + i))).length = min (t.length - 16 * i) 16 := by rw [xorB_length, hE, hdl]
  have hleft := xored_left E hE t i
  refine gb_seq (K := fun st l => onlyAt [0, 1, 2] st.H 0 ∧ l = xorB t (stm E (i + 1)) ∧ Weak 4 24 st ⟨[(1, .str (t.drop (16 * (i + 1)))), (2, .ptr 2 0), (5, .ptr 3 0), (6, .i64 (2 + i : Nat))], [some ⟨false, [.ptr 1 0, .str K]⟩, some ⟨false, T.map .u8⟩, some ⟨false, [.ptr 0 0, .str n]⟩, none]⟩) (gb_block ?_) (fun st l hst => ?_)
  · refine gb_seq (K := fun st l => onlyAt [0, 1, 2] st.H 0 ∧ l = xorB t (stm E i) ∧ Weak 4 24 st ⟨[(7, .str (xorB (t.drop (16 * i)) (E (2 + i)))), (1, .str (t.drop (16 * i))), (2, .ptr 2 0), (5, .ptr 3 0), (6, .i64 (2 + i : Nat))], [some ⟨false, [.ptr 1 0, .str K]⟩, some ⟨false, T.map .u8⟩, some ⟨false, [.ptr 0 0, .str n]⟩, none]⟩) (gb_vc (by kernel_rfl) (by decide) (by decide) (by decide) (by simp [onlyAt, J]) (go_start ?_)) (fun st l hst => ?_)
    · simp only [go_sem, ↓reduceIte, Nat.reduceEqDiff, Nat.reduceLT, Nat.reduceAdd, J]
      refine goCall_mem [0, 1] (hB) (by kernel_rfl) (by simp [-List.map_map, -List.map_set]) rfl (by simp [-List.map_map, -List.map_set]) (by decide) (by simp [-List.map_map, -List.map_set]) (by simp [-List.map_map, -List.map_set]) (by simp [-List.map_map, -List.map_set]) (by simp [-List.map_map, -List.map_set]) (by simp) ?_
      simp only [go_sem, ↓reduceIte, Nat.reduceEqDiff, Nat.reduceLT, Nat.reduceAdd, Nat.reduceSub]
      refine goCall_pure0 (hX) ?_
      simp only [go_sem, ↓reduceIte, Nat.reduceLT]
      refine ⟨by simp [onlyAt], rfl, Weak.drop ?_ rfl (fun _ _ h => h)⟩
      simp [St.get, lookS]
    obtain ⟨k1, rfl, k2⟩ := hst
    refine gb_weak (by decide) (by decide) (by decide) k1 ?_ k2
    refine gb_seq (K := fun st l => st = ⟨[(18, .tup [.i64 (xorB (t.drop (16 * i)) (E (2 + i))).length, .nilIface]), (17, .str (xorB (t.drop (16 * i)) (E (2 + i)))), (7, .str (xorB (t.drop (16 * i)) (E (2 + i)))), (1, .str (t.drop (16 * i))), (2, .ptr 2 0), (5, .ptr 3 0), (6, .i64 (2 + i : Nat))], [some ⟨false, [.ptr 1 0, .str K]⟩, some ⟨false, T.map .u8⟩, some ⟨false, [.ptr 0 0, .str n]⟩, none]⟩ ∧ l = xorB t (stm E (i + 1))) (gb_write (x := .tmp 7) (by kernel_rfl) writes_builder (Nat.le_refl _) rfl rfl rfl (by decide) rfl rfl rfl (by decide) rfl rfl ?_ rfl (by simp [blksFlat, flats, V.flat, hflT]) (by simp [onlyAt]) ⟨rfl, xored_step E hE t i (by omega)⟩) (fun st l hst => ?_)
    · have hsl := stm_length E hE i
      rw [xorB_length, hpl, hsl]; omega
    obtain ⟨rfl, rfl⟩ := hst
    refine gb_vc (by kernel_rfl) (by decide) (by decide) (by decide) (by simp [onlyAt]) (go_start ?_)
    rw [hpl] at hleft
    have htk : (t.drop (16 * i)).take (t.length - 16 * i) = t.drop (16 * i) := List.take_of_length_le (by omega)
    simp only [go_sem, ↓reduceIte, Nat.reduceEqDiff, Nat.reduceLT, hdl, hpl, htk, hleft]
    refine ⟨by omega, ?_⟩
    simp only [bldQ, seqB]
    refine ⟨by simp [onlyAt], trivial, Weak.drop ?_ rfl (fun _ _ h => h)⟩
    simp [St.get, lookS]
  obtain ⟨k1, rfl, k2⟩ := hst
  refine gb_weak (by decide) (by decide) (by decide) k1 ?_ k2
  refine gb_vc (by kernel_rfl) (by decide) (by decide) (by decide) (by simp [onlyAt]) (go_start ?_)
  have hw : ((2 + i : Nat) : Int) + 1 = ((2 + (i + 1) : Nat) : Int) := by omega
  have hw2 : w64 ((2 + (i + 1) : Nat) : Int) = ((2 + (i + 1) : Nat) : Int) := w64_of (by omega) (by omega)
  simp only [go_sem, ↓reduceIte, Nat.reduceEqDiff, Nat.reduceLT, hw, hw2]
  simp only [seqB]
  refine ⟨k - 1, by omega, i + 1, by omega, by simp [onlyAt], Weak.drop ?_ rfl (fun _ _ h => h), rfl⟩
  simp [St.get, lookS, J]
end Go.Vm
end
section
namespace Go.Vm
open Go.Proofs
set_option maxRecDepth 20000
/-- The bit k of a string, the high bit of the first byte first. -/
def bitS (s : List (BitVec 8)) (k : Nat) : Bool := (s.getD (k / 8) 0).getLsbD (7 - k % 8)
def b2i (b : Bool) : Int := if b then 1 else 0
def bitsL (s : List (BitVec 8)) (n : Nat) : List Int := (List.range n).map fun k => b2i (bitS s k)
theorem bitsL_length (s : List (BitVec 8)) (n : Nat) : (bitsL s n).length = n := by unfold bitsL; rw [List.length_map, List.length_range]
theorem bitsL_succ (s : List (BitVec 8)) (n : Nat) : bitsL s (n + 1) = bitsL s n ++ [b2i (bitS s n)] := by unfold bitsL; rw [List.range_succ, List.map_append]; rfl
theorem bit_of (b : BitVec 8) : ∀ n, n < 8 → (((b >>> n) % 2#8).toNat : Int) = b2i (b.getLsbD n) := by
  intro n hn
  have h : ((b >>> n) % 2#8).toNat = if b.getLsbD n then 1 else 0 := by
    rw [BitVec.toNat_umod, BitVec.toNat_ushiftRight, Nat.shiftRight_eq_div_pow, BitVec.getLsbD, Nat.testBit_eq_decide_div_mod_eq, show (2#8).toNat = 2 from rfl]
    have := Nat.mod_two_eq_zero_or_one (b.toNat / 2 ^ n)
    rcases this with h | h <;> simp [h]
  rw [h]; unfold b2i; split <;> rfl
theorem bit_ix (s : List (BitVec 8)) (i r : Nat) (hr : r < 8) : ((((s.getD i 0) >>> (7 - r)) % 2#8).toNat : Int) = b2i (bitS s (8 * i + r)) := by
  rw [bit_of _ _ (by omega)]
  unfold bitS
  rw [show (8 * i + r) / 8 = i by omega, show (8 * i + r) % 8 = r by omega]
theorem coefs_spec (s : List (BitVec 8)) (hs : s.length = 16) : Spec0 Tryz.prog 79 [.str s] [] (.slice 0 0 128 1) [some ⟨false, (bitsL s 128).map .i64⟩] := by
  refine spec0_of_vc (by kernel_rfl) (fn := Tryz.f79) Tryz.func79 rfl (by show 1 ≤ 27; decide) (go_start ?_)
  simp only [go_sem, ↓reduceIte, Nat.reduceLT, reduceCtorEq, Tryz.ntmps79, hs]
  refine go_loop (fun j st => ∃ i : Nat, i + j = 16 ∧ ((i = 0 ∧ st = ⟨[(0, .str s), (3, .nilSlice), (7, .i64 16), (8, .i64 (0 : Nat))], []⟩) ∨
    (0 < i ∧ st = ⟨[(0, .str s), (3, .slice 0 0 (8 * i) 1), (7, .i64 16), (8, .i64 i)], [some ⟨false, (bitsL s (8 * i)).map .i64⟩]⟩))) ?_ ?_
  · exact start_mk 16 ⟨[(0, .str s), (3, .nilSlice), (7, .i64 16), (8, .i64 (0 : Nat))], []⟩ (by simp [St.get, lookS]) rfl (fun _ _ h => h) ⟨0, by omega, .inl ⟨rfl, rfl⟩⟩
  rintro j st ⟨i, hi, hcase⟩ _
  by_cases h0 : i < 16
  · have h0' : (i : Int) < 16 := by omega
    have hw1 : w64 ((i : Int) + 1) = ((i + 1 : Nat) : Int) := by rw [w64_of (by omega) (by omega)]; omega
    have c0 := bit_ix s i 0 (by decide)
    have c1 := bit_ix s i 1 (by decide)
    have c2 := bit_ix s i 2 (by decide)
    have c3 := bit_ix s i 3 (by decide)
    have c4 := bit_ix s i 4 (by decide)
    have c5 := bit_ix s i 5 (by decide)
    have c6 := bit_ix s i 6 (by decide)
    have c7 := bit_ix s i 7 (by decide)
    simp only [Nat.reduceSub, Nat.add_zero] at c0 c1 c2 c3 c4 c5 c6 c7
    have hb := bitsL_length s (8 * i)
    have hall : bitsL s (8 * i) ++ [b2i (bitS s (8 * i)), b2i (bitS s (8 * i + 1)), b2i (bitS s (8 * i + 2)), b2i (bitS s (8 * i + 3)), b2i (bitS s (8 * i + 4)), b2i (bitS s (8 * i + 5)), b2i (bitS s (8 * i + 6)), b2i (bitS s (8 * i + 7))] = bitsL s (8 * (i + 1)) := by
      rw [show 8 * (i + 1) = 8 * i + 1 + 1 + 1 + 1 + 1 + 1 + 1 + 1 by omega, bitsL_succ, bitsL_succ, bitsL_succ, bitsL_succ, bitsL_succ, bitsL_succ, bitsL_succ, bitsL_succ]
      simp
    rcases hcase with ⟨rfl, rfl⟩ | ⟨hi0, rfl⟩
    · have c0' := c0
      have c1' := c1
      have c2' := c2
      have c3' := c3
      have c4' := c4
      have c5' := c5
      have c6' := c6
      have c7' := c7
      simp only [Nat.mul_zero, Nat.zero_add] at c0' c1' c2' c3' c4' c5' c6' c7' hall
      simp only [go_sem, ↓reduceIte, Nat.reduceEqDiff, Nat.reduceLT, Int.reduceLT, reduceCtorEq]
      refine go_unroll 9 ?_
      simp only [go_sem, ↓reduceIte, Nat.reduceEqDiff, Nat.reduceLT, Nat.reduceLeDiff, Nat.reduceAdd, Nat.reduceSub, Nat.reduceMul, Nat.reduceDiv, Int.reduceLE, Int.reduceLT, Int.reduceToNat, Int.reduceAdd, Int.reduceSub, Int.reduceNeg, BitVec.reduceOfInt, BitVec.reduceEq, reduceCtorEq, c0', c1', c2', c3', c4', c5', c6', c7']
      iterate 8 refine ⟨by omega, ?_⟩
      refine again_ren (j - 1) ⟨[(0, .str s), (3, .slice 0 0 (8 * (0 + 1)) 1), (7, .i64 16), (8, .i64 (0 + 1 : Nat))], [some ⟨false, (bitsL s (8 * (0 + 1))).map .i64⟩]⟩ [15] (by omega) rfl (by simp) rfl (by decide) ?_ ?_ ⟨0 + 1, by omega, .inr ⟨by omega, rfl⟩⟩
      · simp [slotsOk, St.get, lookS, -List.map_map, -List.map_set]
      · rw [← hall]; simp [bitsL, -List.map_map, -List.map_set]
    · simp only [go_sem, ↓reduceIte, Nat.reduceEqDiff, Nat.reduceLT, reduceCtorEq, h0']
      refine go_unroll 9 ?_
      simp only [go_sem, ↓reduceIte, Nat.reduceEqDiff, Nat.reduceLT, Nat.reduceLeDiff, Nat.reduceAdd, Nat.reduceSub, Int.reduceLE, Int.reduceLT, Int.reduceToNat, Int.reduceSub, Int.reduceNeg, BitVec.reduceOfInt, BitVec.reduceEq, reduceCtorEq, c0, c1, c2, c3, c4, c5, c6, c7, hb, Nat.min_self]
      iterate 16 refine ⟨by omega, ?_⟩
      refine again_ren (j - 1) ⟨[(0, .str s), (3, .slice 0 0 (8 * (i + 1)) 1), (7, .i64 16), (8, .i64 (i + 1 : Nat))], [some ⟨false, (bitsL s (8 * (i + 1))).map .i64⟩]⟩ [16] (by omega) rfl (by simp) rfl (by decide) ?_ ?_ ⟨i + 1, by omega, .inr ⟨by omega, rfl⟩⟩
      · simp [slotsOk, St.get, lookS, hw1, -List.map_map, -List.map_set]; omega
      · rw [← hall]; simp [List.take_of_length_le, hb, -List.map_map, -List.map_set]
  · obtain rfl : i = 16 := by omega
    have h0' : ¬ ((16 : Nat) : Int) < 16 := by omega
    rcases hcase with ⟨hn, _⟩ | ⟨hi0, rfl⟩
    · omega
    simp only [go_sem, ↓reduceIte, Nat.reduceEqDiff, Nat.reduceLT, Nat.reduceMul, Int.reduceLT, reduceCtorEq]
    exact Fin.ren [0] (by simp) (by simp) (by rfl) (by decide) (by simp [-List.map_map, -List.map_set]) (by simp [-List.map_map, -List.map_set])
end Go.Vm
end
section
namespace Go.Vm
open Go.Proofs
set_option maxRecDepth 20000
def cofF (f : Nat → Bool) : List Int := (List.range 256).map fun k => b2i (f k)
theorem cofF_length (f : Nat → Bool) : (cofF f).length = 256 := by unfold cofF; rw [List.length_map, List.length_range]
theorem cofF_get (f : Nat → Bool) (k : Nat) (h : k < 256) : (cofF f).getD k 0 = b2i (f k) := by
  unfold cofF
  rw [List.getD_eq_getElem?_getD, List.getElem?_map, List.getElem?_range h]; rfl
theorem bitsL_get (s : List (BitVec 8)) (n k : Nat) (h : k < n) : (bitsL s n).getD k 0 = b2i (bitS s k) := by
  unfold bitsL
  rw [List.getD_eq_getElem?_getD, List.getElem?_map, List.getElem?_range h]; rfl
theorem cofF_set (f : Nat → Bool) (k : Nat) (v : Bool) : (cofF f).set k (b2i v) = cofF fun m => if m = k then v else f m := by
  unfold cofF
  apply List.ext_getElem?
  intro i
  rw [List.getElem?_set, List.getElem?_map, List.length_map, List.length_range, List.getElem?_map]
  by_cases hi : i < 256
  · rw [List.getElem?_range hi]
    by_cases hk : k = i
    · subst hk; simp [hi]
    · have : ¬ i = k := fun e => hk e.symm
      simp [hk, this]
  · rw [List.getElem?_eq_none (by simp; omega)]
    split <;> simp <;> omega
theorem xor_b2i (x y : Bool) : xor64 (b2i x) (b2i y) = b2i (x ^^ y) := by cases x <;> cases y <;> decide
def flipF (F : Nat → Bool) (k : Nat) : Nat → Bool := fun m => if m = k then !(F k) else F m
theorem cofF_flip (F : Nat → Bool) (k : Nat) : (cofF F).set k (xor64 (b2i (F k)) 1) = cofF (flipF F k) := by
  rw [show (1 : Int) = b2i true from rfl, xor_b2i, cofF_set]
  congr 1; funext m; unfold flipF; simp
theorem cofF_getV (F : Nat → Bool) (k : Nat) (h : k < 256) : ((cofF F).map V.i64).getD k .junk = .i64 (b2i (F k)) := by
  rw [getD_i64 (by rw [cofF_length]; exact h), cofF_get F k h]
def prodF (A B : Nat → Bool) : Nat → Nat → Bool
  | 0, _ => false
  | i + 1, k => prodF A B i k ^^ (A i && decide (i ≤ k ∧ k < i + 128) && B (k - i))
def rowF (A B : Nat → Bool) (i j k : Nat) : Bool := prodF A B i k ^^ (decide (i ≤ k ∧ k < i + j) && B (k - i))
theorem rowF_zero (A B : Nat → Bool) (i : Nat) : rowF A B i 0 = prodF A B i := by
  funext k; unfold rowF
  rw [decide_eq_false (by omega : ¬ (i ≤ k ∧ k < i + 0))]; simp
theorem rowF_at (A B : Nat → Bool) (i j : Nat) : rowF A B i j (i + j) = prodF A B i (i + j) := by
  unfold rowF
  have : ¬ (i ≤ i + j ∧ i + j < i + j) := by omega
  simp
theorem rowF_succ (A B : Nat → Bool) (i j : Nat) : (fun m => if m = i + j then rowF A B i j (i + j) ^^ B j else rowF A B i j m) = rowF A B i (j + 1) := by
  funext m
  by_cases h : m = i + j
  · subst h
    rw [if_pos rfl, rowF_at]
    unfold rowF
    have : i ≤ i + j ∧ i + j < i + (j + 1) := by omega
    simp [this]
  · rw [if_neg h]
    unfold rowF
    have : (i ≤ m ∧ m < i + j) ↔ (i ≤ m ∧ m < i + (j + 1)) := by omega
    simp [this]
theorem rowF_all (A B : Nat → Bool) (i : Nat) (h : A i = true) : rowF A B i 128 = prodF A B (i + 1) := by
  funext k; unfold rowF; rw [prodF, h]; simp
theorem prodF_skip (A B : Nat → Bool) (i : Nat) (h : A i = false) : prodF A B i = prodF A B (i + 1) := by
  funext k; rw [prodF, h]; simp
def tapP (k m : Nat) : Bool := decide (m = k - 128 ∨ m = k - 128 + 1 ∨ m = k - 128 + 2 ∨ m = k - 128 + 7)
def redK (k : Nat) (f : Nat → Bool) : Nat → Bool := fun m => f m ^^ (f k && tapP k m)
def redTo (f : Nat → Bool) : Nat → Nat → Bool
  | 0 => f
  | r + 1 => redK (254 - r) (redTo f r)
def acc8 (x0 x1 x2 x3 x4 x5 x6 x7 : Bool) : Int := w64 (w64 (2 * w64 (w64 (2 * w64 (w64 (2 * w64 (w64 (2 * w64 (w64 (2 * w64 (w64 (2 * w64 (w64 (2 * w64 (0 + b2i x0)) + b2i x1)) + b2i x2)) + b2i x3)) + b2i x4)) + b2i x5)) + b2i x6)) + b2i x7)
def byteF (f : Nat → Bool) (q : Nat) : BitVec 8 := BitVec.ofInt 8 (acc8 (f (8 * q)) (f (8 * q + 1)) (f (8 * q + 2)) (f (8 * q + 3)) (f (8 * q + 4)) (f (8 * q + 5)) (f (8 * q + 6)) (f (8 * q + 7)))
def outF (f : Nat → Bool) (q : Nat) : List (BitVec 8) := (List.range q).map (byteF f)
theorem outF_succ (f : Nat → Bool) (q : Nat) : outF f (q + 1) = outF f q ++ [byteF f q] := by unfold outF; rw [List.range_succ, List.map_append]; rfl
theorem outF_length (f : Nat → Bool) (q : Nat) : (outF f q).length = q := by unfold outF; rw [List.length_map, List.length_range]
theorem flip4 (f : Nat → Bool) (r : Nat) (hr : r < 127) (h : redTo f r (254 - r) = true) : flipF (flipF (flipF (flipF (redTo f r) (126 - r)) (126 - r + 1)) (126 - r + 2)) (126 - r + 7) = redTo f (r + 1) := by
  funext m
  rw [redTo]; unfold redK tapP; rw [h, show 254 - r - 128 = 126 - r by omega]
  generalize 126 - r = k
  unfold flipF
  by_cases m0 : m = k
  · subst m0; simp
  · by_cases m1 : m = k + 1
    · subst m1; simp
    · by_cases m2 : m = k + 2
      · subst m2; simp
      · by_cases m7 : m = k + 7
        · subst m7; simp
        · simp [m0, m1, m2, m7]
theorem RGhash_spec (a b : List (BitVec 8)) (h1 : a.length = 16) (h2 : b.length = 16) : PureFn Tryz.prog 69 [.str a, .str b] (.tup [.str (outF (redTo (prodF (bitS a) (bitS b) 128) 127) 16), .i64 0]) := by
  have hla := bitsL_length a 128
  have hlb := bitsL_length b 128
  refine pure_of_vc (by kernel_rfl) (fn := Tryz.f69) (by kernel_rfl) Tryz.func69 rfl (by show 2 ≤ 107; decide) (by simp [lows, V.low]) (by simp [lows, V.low]) (go_start ?_)
  simp only [go_sem, ↓reduceIte, Nat.reduceEqDiff, Nat.reduceLT, reduceCtorEq, Tryz.ntmps69, h1, h2]
  refine goCall_mem [] (coefs_spec a h1) (by kernel_rfl) (by simp [-List.map_map, -List.map_set]) rfl (by simp [-List.map_map, -List.map_set]) (by decide) (by simp [-List.map_map, -List.map_set]) (by simp [-List.map_map, -List.map_set]) (by simp [-List.map_map, -List.map_set]) (by simp [-List.map_map, -List.map_set]) (by simp) ?_
  simp only [go_sem, ↓reduceIte, Nat.reduceEqDiff, Nat.reduceLT, Nat.reduceAdd, Nat.reduceSub]
  refine goCall_mem [] (coefs_spec b h2) (by kernel_rfl) (by simp [-List.map_map, -List.map_set]) rfl (by simp [-List.map_map, -List.map_set]) (by decide) (by simp [-List.map_map, -List.map_set]) (by simp [-List.map_map, -List.map_set]) (by simp [-List.map_map, -List.map_set]) (by simp [-List.map_map, -List.map_set]) (by simp) ?_
  simp only [go_sem, ↓reduceIte, Nat.reduceEqDiff, Nat.reduceLT, Nat.reduceAdd, Nat.reduceSub]
  have hz : List.replicate 256 (V.i64 0) = (cofF (prodF (bitS a) (bitS b) 0)).map .i64 := rfl
  rw [hz]
  refine go_loop (fun ji st => ∃ i : Nat, i + ji = 128 ∧ st = ⟨[(6, .ptr 0 0), (8, .slice 2 0 128 1), (33, .slice 1 0 128 1), (34, .i64 128), (35, .i64 i)], [some ⟨false, (cofF (prodF (bitS a) (bitS b) i)).map .i64⟩, some ⟨false, (bitsL a 128).map .i64⟩, some ⟨false, (bitsL b 128).map .i64⟩]⟩) ?_ ?_
  · exact start_mk (128) ⟨[(6, .ptr 0 0), (8, .slice 2 0 128 1), (33, .slice 1 0 128 1), (34, .i64 128), (35, .i64 (0 : Nat))], [some ⟨false, (cofF (prodF (bitS a) (bitS b) (0 : Nat))).map .i64⟩, some ⟨false, (bitsL a 128).map .i64⟩, some ⟨false, (bitsL b 128).map .i64⟩]⟩ (by simp [St.get, lookS, -List.map_set, -List.map_map]) rfl (fun _ _ h => h) ⟨0, by omega, rfl⟩
  rintro ji st ⟨i, hi, rfl⟩ _
  simp only [go_sem, ↓reduceIte, Nat.reduceEqDiff, Nat.reduceLT, reduceCtorEq]
  by_cases h0 : i < 128
  · have h0' : (i : Int) < 128 := by omega
    have hia : i < (bitsL a 128).length := by omega
    have hga := bitsL_get a 128 i h0
    simp only [go_sem, ↓reduceIte, Nat.reduceEqDiff, Nat.reduceLT, h0', hla, h0, getD_i64 hia, hga]
    refine ⟨by omega, ?_⟩
    by_cases hb : bitS a i = true
    · have hb1 : ¬ b2i (bitS a i) = 0 := by rw [hb]; decide
      simp only [go_sem, ↓reduceIte, hb1]
      rw [← rowF_zero (bitS a) (bitS b) i]
      refine go_loop (fun jj st => ∃ j : Nat, j + jj = 128 ∧ st = ⟨[(6, .ptr 0 0), (8, .slice 2 0 128 1), (9, .i64 i), (33, .slice 1 0 128 1), (34, .i64 128), (35, .i64 i), (42, .slice 2 0 128 1), (43, .i64 128), (44, .i64 j)], [some ⟨false, (cofF (rowF (bitS a) (bitS b) i j)).map .i64⟩, some ⟨false, (bitsL a 128).map .i64⟩, some ⟨false, (bitsL b 128).map .i64⟩]⟩) ?_ ?_
      · exact start_mk (128) ⟨[(6, .ptr 0 0), (8, .slice 2 0 128 1), (9, .i64 i), (33, .slice 1 0 128 1), (34, .i64 128), (35, .i64 i), (42, .slice 2 0 128 1), (43, .i64 128), (44, .i64 (0 : Nat))], [some ⟨false, (cofF (rowF (bitS a) (bitS b) i (0 : Nat))).map .i64⟩, some ⟨false, (bitsL a 128).map .i64⟩, some ⟨false, (bitsL b 128).map .i64⟩]⟩ (by simp [St.get, lookS, -List.map_set, -List.map_map]) rfl (fun _ _ h => h) ⟨0, by omega, rfl⟩
      rintro jj st ⟨j, hj, rfl⟩ _
      simp only [go_sem, ↓reduceIte, Nat.reduceEqDiff, Nat.reduceLT]
      by_cases hj0 : j < 128
      · have hj0' : (j : Int) < 128 := by omega
        have hjb : j < (bitsL b 128).length := by omega
        have hgb := bitsL_get b 128 j hj0
        have e1 : w64 ((i : Int) + (j : Int)) = ((i + j : Nat) : Int) := by rw [w64_of (by omega) (by omega)]; omega
        have e2 : ((i + j : Nat) : Int) < 256 := by omega
        have e3 : i + j < 256 := by omega
        have hcl := cofF_length (rowF (bitS a) (bitS b) i j)
        have hcx : i + j < (cofF (rowF (bitS a) (bitS b) i j)).length := by omega
        have hcg := cofF_get (rowF (bitS a) (bitS b) i j) (i + j) e3
        have hcs := cofF_set (rowF (bitS a) (bitS b) i j) (i + j) (rowF (bitS a) (bitS b) i j (i + j) ^^ bitS b j)
        rw [rowF_succ] at hcs
        simp only [go_sem, ↓reduceIte, Nat.reduceEqDiff, Nat.reduceLT, Nat.reduceLeDiff, hj0', hlb, hj0, getD_i64 hjb, hgb, e1, e2, e3, hcl, getD_i64 hcx, hcg, xor_b2i, hcs]
        refine ⟨by omega, by omega, by omega, by omega, ?_⟩
        refine again_mk (jj - 1) ⟨[(6, .ptr 0 0), (8, .slice 2 0 128 1), (9, .i64 i), (33, .slice 1 0 128 1), (34, .i64 128), (35, .i64 i), (42, .slice 2 0 128 1), (43, .i64 128), (44, .i64 (j + 1 : Nat))], [some ⟨false, (cofF (rowF (bitS a) (bitS b) i (j + 1 : Nat))).map .i64⟩, some ⟨false, (bitsL a 128).map .i64⟩, some ⟨false, (bitsL b 128).map .i64⟩]⟩ (by omega) ?_ rfl (fun _ _ h => h) ⟨j + 1, by omega, rfl⟩
        have hw1 : w64 ((j : Int) + 1) = ((j + 1 : Nat) : Int) := by rw [w64_of (by omega) (by omega)]; omega
        simp [St.get, lookS, hw1, -List.map_set, -List.map_map]
      · obtain rfl : j = 128 := by omega
        have hj0' : ¬ ((128 : Nat) : Int) < 128 := by omega
        simp only [go_sem, ↓reduceIte, Int.reduceLT, rowF_all _ _ _ hb]
        refine again_mk (ji - 1) ⟨[(6, .ptr 0 0), (8, .slice 2 0 128 1), (33, .slice 1 0 128 1), (34, .i64 128), (35, .i64 (i + 1 : Nat))], [some ⟨false, (cofF (prodF (bitS a) (bitS b) (i + 1 : Nat))).map .i64⟩, some ⟨false, (bitsL a 128).map .i64⟩, some ⟨false, (bitsL b 128).map .i64⟩]⟩ (by omega) ?_ rfl (fun _ _ h => h) ⟨i + 1, by omega, rfl⟩
        have hw1 : w64 ((i : Int) + 1) = ((i + 1 : Nat) : Int) := by rw [w64_of (by omega) (by omega)]; omega
        simp [St.get, lookS, hw1, -List.map_set, -List.map_map]
    · have hb' : bitS a i = false := by simpa using hb
      have hb1 : b2i (bitS a i) = 0 := by rw [hb']; decide
      have hps := prodF_skip (bitS a) (bitS b) i hb'
      simp only [go_sem, ↓reduceIte, hb1]
      rw [hps]
      refine again_mk (ji - 1) ⟨[(6, .ptr 0 0), (8, .slice 2 0 128 1), (33, .slice 1 0 128 1), (34, .i64 128), (35, .i64 (i + 1 : Nat))], [some ⟨false, (cofF (prodF (bitS a) (bitS b) (i + 1 : Nat))).map .i64⟩, some ⟨false, (bitsL a 128).map .i64⟩, some ⟨false, (bitsL b 128).map .i64⟩]⟩ (by omega) ?_ rfl (fun _ _ h => h) ⟨i + 1, by omega, rfl⟩
      have hw1 : w64 ((i : Int) + 1) = ((i + 1 : Nat) : Int) := by rw [w64_of (by omega) (by omega)]; omega
      simp [St.get, lookS, hw1, -List.map_set, -List.map_map]
  · obtain rfl : i = 128 := by omega
    have h0' : ¬ ((128 : Nat) : Int) < 128 := by omega
    simp only [go_sem, ↓reduceIte, Int.reduceLT]
    generalize prodF (bitS a) (bitS b) 128 = f
    have hf0 : cofF f = cofF (redTo f 0) := rfl
    rw [hf0]
    refine go_loop (fun jr st => ∃ r : Nat, r + jr = 127 ∧ st = ⟨[(6, .ptr 0 0), (13, .i64 ((254 - r : Nat) : Int))], [some ⟨false, (cofF (redTo f r)).map .i64⟩, some ⟨false, (bitsL a 128).map .i64⟩, some ⟨false, (bitsL b 128).map .i64⟩]⟩) ?_ ?_
    · exact start_mk 127 ⟨[(6, .ptr 0 0), (13, .i64 ((254 - 0 : Nat) : Int))], [some ⟨false, (cofF (redTo f 0)).map .i64⟩, some ⟨false, (bitsL a 128).map .i64⟩, some ⟨false, (bitsL b 128).map .i64⟩]⟩ (by simp [St.get, lookS]) rfl (fun _ _ h => h) ⟨0, by omega, rfl⟩
    rintro jr st ⟨r, hr, rfl⟩ _
    by_cases hr0 : r < 127
    · have g0 : (128 : Int) ≤ ((254 - r : Nat) : Int) := by omega
      have g1 : ((254 - r : Nat) : Int) < 256 := by omega
      have g2 : 254 - r < 256 := by omega
      have hcl := cofF_length (redTo f r)
      have hcx : 254 - r < (cofF (redTo f r)).length := by omega
      have hcg := cofF_get (redTo f r) (254 - r) g2
      have w1 : w64 (((254 - r : Nat) : Int) - 1) = ((254 - (r + 1) : Nat) : Int) := by rw [w64_of (by omega) (by omega)]; omega
      simp only [go_sem, ↓reduceIte, Nat.reduceEqDiff, Nat.reduceLT, Nat.reduceLeDiff, Nat.reduceAdd, g0, g1, g2, hcl, getD_i64 hcx, hcg]
      refine ⟨by omega, ?_⟩
      by_cases hb : redTo f r (254 - r) = true
      · have hb1 : b2i (redTo f r (254 - r)) = 1 := by rw [hb]; rfl
        have ew : w64 (((254 - r : Nat) : Int) - 128) = ((126 - r : Nat) : Int) := by rw [w64_of (by omega) (by omega)]; omega
        have e0 : w64 (((126 - r : Nat) : Int) + 0) = ((126 - r : Nat) : Int) := by rw [w64_of (by omega) (by omega)]; omega
        have e1 : w64 (((126 - r : Nat) : Int) + 1) = ((126 - r + 1 : Nat) : Int) := by rw [w64_of (by omega) (by omega)]; omega
        have e2 : w64 (((126 - r : Nat) : Int) + 2) = ((126 - r + 2 : Nat) : Int) := by rw [w64_of (by omega) (by omega)]; omega
        have e3 : w64 (((126 - r : Nat) : Int) + 7) = ((126 - r + 7 : Nat) : Int) := by rw [w64_of (by omega) (by omega)]; omega
        have i0 : ((126 - r : Nat) : Int) < 256 := by omega
        have i1 : ((126 - r + 1 : Nat) : Int) < 256 := by omega
        have i2 : ((126 - r + 2 : Nat) : Int) < 256 := by omega
        have i3 : ((126 - r + 7 : Nat) : Int) < 256 := by omega
        have n0 : 126 - r < 256 := by omega
        have n1 : 126 - r + 1 < 256 := by omega
        have n2 : 126 - r + 2 < 256 := by omega
        have n3 : 126 - r + 7 < 256 := by omega
        simp only [go_sem, ↓reduceIte, hb1]
        refine go_unroll 5 ?_
        have z0 : (0 : Int) ≤ ((126 - r : Nat) : Int) := by omega
        have z1 : (0 : Int) ≤ ((126 - r + 1 : Nat) : Int) := by omega
        have z2 : (0 : Int) ≤ ((126 - r + 2 : Nat) : Int) := by omega
        have z3 : (0 : Int) ≤ ((126 - r + 7 : Nat) : Int) := by omega
        simp only [go_sem, ↓reduceIte, Nat.reduceEqDiff, Nat.reduceLT, Nat.reduceLeDiff, Nat.reduceAdd, Nat.reduceSub, Int.reduceLE, Int.reduceLT, Int.reduceToNat, Int.reduceAdd, Int.reduceNeg, ew, e0, e1, e2, e3, i0, i1, i2, i3, z0, z1, z2, z3, cofF_length, cofF_getV, cofF_flip, n0, n1, n2, n3, w1, flip4 f r hr0 hb]
        refine ⟨by omega, by omega, by omega, by omega, ?_⟩
        refine again_ren (jr - 1) ⟨[(6, .ptr 0 0), (13, .i64 ((254 - (r + 1) : Nat) : Int))], [some ⟨false, (cofF (redTo f (r + 1))).map .i64⟩, some ⟨false, (bitsL a 128).map .i64⟩, some ⟨false, (bitsL b 128).map .i64⟩]⟩ [0, 1, 2] (by omega) rfl (by simp) rfl (by decide) ?_ ?_ ⟨r + 1, by omega, rfl⟩
        · simp [slotsOk, St.get, lookS, -List.map_map, -List.map_set]
        · simp [-List.map_map, -List.map_set]
      · have hb' : redTo f r (254 - r) = false := by simpa using hb
        have hb1 : ¬ b2i (redTo f r (254 - r)) = 1 := by rw [hb']; decide
        have hrs : redTo f r = redTo f (r + 1) := by rw [redTo]; funext m; unfold redK; rw [hb']; simp
        simp only [go_sem, ↓reduceIte, hb1, w1]
        rw [hrs]
        exact again_mk (jr - 1) ⟨[(6, .ptr 0 0), (13, .i64 ((254 - (r + 1) : Nat) : Int))], [some ⟨false, (cofF (redTo f (r + 1))).map .i64⟩, some ⟨false, (bitsL a 128).map .i64⟩, some ⟨false, (bitsL b 128).map .i64⟩]⟩ (by omega) (by simp [St.get, lookS]) rfl (fun _ _ h => h) ⟨r + 1, by omega, rfl⟩
    · obtain rfl : r = 127 := by omega
      have g0 : ¬ (128 : Int) ≤ ((254 - 127 : Nat) : Int) := by omega
      simp only [go_sem, ↓reduceIte, Nat.reduceEqDiff, Nat.reduceLT, Nat.reduceSub, Int.reduceLE]
      generalize redTo f 127 = g
      refine go_loop (fun jq st => ∃ q : Nat, q + jq = 16 ∧ st = ⟨[(6, .ptr 0 0), (16, .str (outF g q)), (82, .i64 q)], [some ⟨false, (cofF g).map .i64⟩, some ⟨false, (bitsL a 128).map .i64⟩, some ⟨false, (bitsL b 128).map .i64⟩]⟩) ?_ ?_
      · exact start_mk (16) ⟨[(6, .ptr 0 0), (16, .str (outF g (0 : Nat))), (82, .i64 (0 : Nat))], [some ⟨false, (cofF g).map .i64⟩, some ⟨false, (bitsL a 128).map .i64⟩, some ⟨false, (bitsL b 128).map .i64⟩]⟩ (by simp [St.get, lookS, -List.map_set, -List.map_map, outF]) rfl (fun _ _ h => h) ⟨0, by omega, rfl⟩
      rintro jq st ⟨q, hq, rfl⟩ _
      simp only [go_sem, ↓reduceIte, Nat.reduceEqDiff, Nat.reduceLT]
      by_cases hq0 : q < 16
      · have hq0' : (q : Int) < 16 := by omega
        have e1 : w64 (8 * (q : Int)) = ((8 * q : Nat) : Int) := by rw [w64_of (by omega) (by omega)]; omega
        have e2 : w64 (((8 * q : Nat) : Int) + 8) = ((8 * q + 8 : Nat) : Int) := by rw [w64_of (by omega) (by omega)]; omega
        have k1 : (0 : Int) ≤ ((8 * q : Nat) : Int) := by omega
        have k2 : ((8 * q : Nat) : Int) ≤ ((8 * q + 8 : Nat) : Int) := by omega
        have k3 : ((8 * q + 8 : Nat) : Int) ≤ 256 := by omega
        have k4 : 8 * q + 8 - 8 * q = 8 := by omega
        have k5 : ((8 * q + 8 : Nat) : Int) - ((8 * q : Nat) : Int) = 8 := by omega
        have n0 : 8 * q < 256 := by omega
        have n1 : 8 * q + 1 < 256 := by omega
        have n2 : 8 * q + 2 < 256 := by omega
        have n3 : 8 * q + 3 < 256 := by omega
        have n4 : 8 * q + 4 < 256 := by omega
        have n5 : 8 * q + 5 < 256 := by omega
        have n6 : 8 * q + 6 < 256 := by omega
        have n7 : 8 * q + 7 < 256 := by omega
        simp only [go_sem, ↓reduceIte, Int.reduceToNat, hq0', e1, e2, k1, k2, k3, k5]
        refine ⟨by rw [cofF_length]; decide, ?_⟩
        refine go_unroll 9 ?_
        simp only [go_sem, ↓reduceIte, Nat.reduceEqDiff, Nat.reduceLT, Nat.reduceSub, Int.reduceLE, Int.reduceLT, Int.reduceToNat, Int.reduceAdd, Int.reduceMul, Int.reduceNeg, cofF_length, cofF_getV, n0, n1, n2, n3, n4, n5, n6, n7]
        have hap := (outF_succ g q).symm
        unfold byteF acc8 at hap
        have hol := outF_length g q
        refine goCall_pure0 (chr_spec _) ?_
        simp only [go_sem, ↓reduceIte, Nat.reduceEqDiff, Nat.reduceLT, Nat.reduceLeDiff, hap, hol]
        refine ⟨by omega, ?_⟩
        refine again_mk (jq - 1) ⟨[(6, .ptr 0 0), (16, .str (outF g (q + 1 : Nat))), (82, .i64 (q + 1 : Nat))], [some ⟨false, (cofF g).map .i64⟩, some ⟨false, (bitsL a 128).map .i64⟩, some ⟨false, (bitsL b 128).map .i64⟩]⟩ (by omega) ?_ rfl (fun _ _ h => h) ⟨q + 1, by omega, rfl⟩
        have hw1 : w64 ((q : Int) + 1) = ((q + 1 : Nat) : Int) := by rw [w64_of (by omega) (by omega)]; omega
        simp [St.get, lookS, hw1, -List.map_set, -List.map_map]
      · obtain rfl : q = 16 := by omega
        have hq0' : ¬ ((16 : Nat) : Int) < 16 := by omega
        simp only [go_sem, ↓reduceIte, Int.reduceLT]
end Go.Vm
end
section
namespace Go.Vm
open Go.Proofs
set_option maxRecDepth 20000
def stepV (p : BitVec 64 × BitVec 64) : BitVec 64 × BitVec 64 := (p.1 >>> 1 ^^^ ((p.2 &&& 1#64) * 225#64) <<< 56, p.2 >>> 1 ||| p.1 <<< 63)
def vT (y : BitVec 64 × BitVec 64) : Nat → BitVec 64 × BitVec 64
  | 0 => y
  | i + 1 => stepV (vT y i)
def bitX (x : BitVec 64 × BitVec 64) (i : Nat) : Bool := decide ((if 64 ≤ i then x.2 else x.1) >>> (63 - i % 64) &&& 1#64 = 1#64)
def zT (x y : BitVec 64 × BitVec 64) : Nat → BitVec 64 × BitVec 64
  | 0 => (0#64, 0#64)
  | i + 1 => if bitX x i then ((zT x y i).1 ^^^ (vT y i).1, (zT x y i).2 ^^^ (vT y i).2) else zT x y i
theorem read_spec (s : List (BitVec 8)) (h : s.length = 16) : PureFn Tryz.prog 147 [.str s] (.agg [.u64 (BitVec.ofNat 64 (be (s.take 8))), .u64 (BitVec.ofNat 64 (be (s.drop 8)))]) := by
  have h1 : (s.take 8).length = 8 := by rw [List.length_take]; omega
  have h2 : (s.drop 8).length = 8 := by rw [List.length_drop]; omega
  refine pure_of_vc (by kernel_rfl) (fn := Tryz.f147) (by kernel_rfl) Tryz.func147 rfl (by show 1 ≤ 10; decide) (by simp [lows, V.low]) (by simp [lows, V.low]) (go_start ?_)
  simp only [go_sem, ↓reduceIte, Nat.reduceLT, Int.reduceLE, Int.reduceToNat, reduceCtorEq, Tryz.ntmps147, h]
  refine goCallD_pure0 (Big_spec _ (by omega)) ?_
  simp only [go_sem, ↓reduceIte, Nat.reduceLT, Int.reduceLE, Int.reduceToNat, reduceCtorEq, List.take_of_length_le, h]
  refine goCallD_pure0 (Big_spec _ (by omega)) ?_
  simp only [go_sem, ↓reduceIte, Nat.reduceEqDiff, Nat.reduceLT, Nat.reduceLeDiff, Nat.reduceAdd]
  kernel_rfl
theorem plus_spec (a b c d : BitVec 64) : PureFn Tryz.prog 146 [.agg [.u64 a, .u64 b], .agg [.u64 c, .u64 d]] (.agg [.u64 (a ^^^ c), .u64 (b ^^^ d)]) := by
  refine pure_of_vc (by kernel_rfl) (fn := Tryz.f146) (by kernel_rfl) Tryz.func146 rfl (by show 2 ≤ 16; decide) (by simp [lows, V.low]) (by simp [lows, V.low]) (go_start ?_)
  simp only [go_sem, ↓reduceIte, Nat.reduceEqDiff, Nat.reduceLT, Nat.reduceLeDiff, Nat.reduceAdd, Tryz.ntmps146, Tryz.results146]
theorem text2_spec (a b : BitVec 64) : PureFn Tryz.prog 149 [.agg [.u64 a, .u64 b]] (.str (beB a.toNat 8 ++ beB b.toNat 8)) := by
  have hl := beB_length a.toNat 8
  have h8 := AppBig8_some (beB a.toNat 8) b (by omega)
  rw [hl] at h8
  refine pure_of_vc (by kernel_rfl) (fn := Tryz.f149) (by kernel_rfl) Tryz.func149 rfl (by show 1 ≤ 10; decide) (by simp [lows, V.low]) (by simp [V.low]) (go_start ?_)
  simp only [go_sem, ↓reduceIte, Nat.reduceLT, Nat.reduceAdd, Tryz.ntmps149]
  refine goCallD_mem [] (AppBig8_nil a) (by kernel_rfl) (by simp [-List.map_map, -List.map_set]) rfl (by simp [-List.map_map, -List.map_set]) (by decide) (by simp [-List.map_map, -List.map_set]) (by simp [-List.map_map, -List.map_set]) (by simp [-List.map_map, -List.map_set]) (by simp [-List.map_map, -List.map_set]) (by simp) ?_
  simp only [go_sem, ↓reduceIte, Nat.reduceEqDiff, Nat.reduceLT, Nat.reduceAdd, Nat.reduceSub]
  refine goCallD_mem [1] (h8) (by kernel_rfl) (by simp [-List.map_map, -List.map_set]) rfl (by simp [-List.map_map, -List.map_set]) (by decide) (by simp [-List.map_map, -List.map_set]) (by simp [-List.map_map, -List.map_set]) (by simp [-List.map_map, -List.map_set]) (by simp [-List.map_map, -List.map_set]) (by simp) ?_
  simp only [go_sem, ↓reduceIte, Nat.reduceLT, Nat.reduceAdd, Nat.reduceSub, hl, beB_length]
  refine ⟨by kernel_rfl, ?_⟩
  rw [List.take_of_length_le (by rw [List.length_append, beB_length, beB_length]; decide)]
theorem times_spec (x y : BitVec 64 × BitVec 64) : PureFn Tryz.prog 148 [.agg [.u64 x.1, .u64 x.2], .agg [.u64 y.1, .u64 y.2]] (.agg [.u64 (zT x y 128).1, .u64 (zT x y 128).2]) := by
  refine pure_of_vc (by kernel_rfl) (fn := Tryz.f148) (by kernel_rfl) Tryz.func148 rfl (by show 2 ≤ 49; decide) (by simp [lows, V.low]) (by simp [lows, V.low]) (go_start ?_)
  simp only [go_sem, ↓reduceIte, Nat.reduceLT, Nat.reduceAdd, Tryz.ntmps148]
  refine go_loop (fun ji st => ∃ i : Nat, i + ji = 128 ∧ st = ⟨[(2, .ptr 0 0), (3, .ptr 1 0), (4, .ptr 2 0), (5, .ptr 3 0), (9, .i64 i)], [some ⟨false, [.u64 x.1, .u64 x.2]⟩, some ⟨false, [.u64 (vT y i).1, .u64 (vT y i).2]⟩, some ⟨false, [.u64 0#64, .u64 0#64]⟩, some ⟨false, [.u64 (zT x y i).1, .u64 (zT x y i).2]⟩]⟩) ?_ ?_
  · exact start_mk (128) ⟨[(2, .ptr 0 0), (3, .ptr 1 0), (4, .ptr 2 0), (5, .ptr 3 0), (9, .i64 (0 : Nat))], [some ⟨false, [.u64 x.1, .u64 x.2]⟩, some ⟨false, [.u64 (vT y (0 : Nat)).1, .u64 (vT y (0 : Nat)).2]⟩, some ⟨false, [.u64 0#64, .u64 0#64]⟩, some ⟨false, [.u64 (zT x y (0 : Nat)).1, .u64 (zT x y (0 : Nat)).2]⟩]⟩ (by simp [St.get, lookS, -List.map_set, -List.map_map]) rfl (fun _ _ h => h) ⟨0, by omega, rfl⟩
  rintro ji st ⟨i, hi, rfl⟩ _
  simp only [go_sem, ↓reduceIte, Nat.reduceEqDiff, Nat.reduceLT, Nat.reduceLeDiff, Nat.reduceAdd, Int.reduceLE, Int.reduceLT, Int.reduceEq, BitVec.reduceOfInt, BitVec.reduceToNat]
  by_cases h0 : i < 128
  · have h0' : (i : Int) < 128 := by omega
    have m1 : (i : Int).tmod 64 = ((i % 64 : Nat) : Int) := by rw [show (64 : Int) = ((64 : Nat) : Int) from rfl, tmod_nat]
    have m2 : w64 (63 - ((i % 64 : Nat) : Int)) = ((63 - i % 64 : Nat) : Int) := by rw [w64_of (by omega) (by omega)]; omega
    by_cases h6 : 64 ≤ i
    · have h6' : (64 : Int) ≤ (i : Int) := by omega
      by_cases hb : x.2 >>> (63 - i % 64) &&& 1#64 = 1#64
      · have hbx : bitX x i = true := by unfold bitX; rw [if_pos h6]; exact decide_eq_true hb
        have hz1 : (zT x y i).1 ^^^ (vT y i).1 = (zT x y (i + 1)).1 := by rw [zT, if_pos hbx]
        have hz2 : (zT x y i).2 ^^^ (vT y i).2 = (zT x y (i + 1)).2 := by rw [zT, if_pos hbx]
        simp only [go_sem, ↓reduceIte, h0', h6', m1, m2, hb]
        refine ⟨by omega, ?_⟩
        refine goCall_pure0 (plus_spec _ _ _ _) ?_
        simp only [go_sem, ↓reduceIte, Nat.reduceEqDiff, Nat.reduceLT, Nat.reduceLeDiff, Nat.reduceAdd, Int.reduceLE, Int.reduceLT, BitVec.reduceOfInt, BitVec.reduceToNat, hz1, hz2]
        refine again_mk (ji - 1) ⟨[(2, .ptr 0 0), (3, .ptr 1 0), (4, .ptr 2 0), (5, .ptr 3 0), (9, .i64 (i + 1 : Nat))], [some ⟨false, [.u64 x.1, .u64 x.2]⟩, some ⟨false, [.u64 (vT y (i + 1 : Nat)).1, .u64 (vT y (i + 1 : Nat)).2]⟩, some ⟨false, [.u64 0#64, .u64 0#64]⟩, some ⟨false, [.u64 (zT x y (i + 1 : Nat)).1, .u64 (zT x y (i + 1 : Nat)).2]⟩]⟩ (by omega) ?_ rfl (fun _ _ h => h) ⟨i + 1, by omega, rfl⟩
        have hw1 : w64 ((i : Int) + 1) = ((i + 1 : Nat) : Int) := by rw [w64_of (by omega) (by omega)]; omega
        simp [St.get, lookS, hw1, -List.map_set, -List.map_map]
      · have hbx : bitX x i = false := by unfold bitX; rw [if_pos h6]; exact decide_eq_false hb
        have hz1 : zT x y i = zT x y (i + 1) := by rw [zT, hbx]; rfl
        simp only [go_sem, ↓reduceIte, h0', h6', m1, m2, hb]
        refine ⟨by omega, ?_⟩
        rw [hz1]
        refine again_mk (ji - 1) ⟨[(2, .ptr 0 0), (3, .ptr 1 0), (4, .ptr 2 0), (5, .ptr 3 0), (9, .i64 (i + 1 : Nat))], [some ⟨false, [.u64 x.1, .u64 x.2]⟩, some ⟨false, [.u64 (vT y (i + 1 : Nat)).1, .u64 (vT y (i + 1 : Nat)).2]⟩, some ⟨false, [.u64 0#64, .u64 0#64]⟩, some ⟨false, [.u64 (zT x y (i + 1 : Nat)).1, .u64 (zT x y (i + 1 : Nat)).2]⟩]⟩ (by omega) ?_ rfl (fun _ _ h => h) ⟨i + 1, by omega, rfl⟩
        have hw1 : w64 ((i : Int) + 1) = ((i + 1 : Nat) : Int) := by rw [w64_of (by omega) (by omega)]; omega
        simp [St.get, lookS, hw1, -List.map_set, -List.map_map]
    · have h6' : ¬ (64 : Int) ≤ (i : Int) := by omega
      by_cases hb : x.1 >>> (63 - i % 64) &&& 1#64 = 1#64
      · have hbx : bitX x i = true := by unfold bitX; rw [if_neg h6]; exact decide_eq_true hb
        have hz1 : (zT x y i).1 ^^^ (vT y i).1 = (zT x y (i + 1)).1 := by rw [zT, if_pos hbx]
        have hz2 : (zT x y i).2 ^^^ (vT y i).2 = (zT x y (i + 1)).2 := by rw [zT, if_pos hbx]
        simp only [go_sem, ↓reduceIte, h0', h6', m1, m2, hb]
        refine ⟨by omega, ?_⟩
        refine goCall_pure0 (plus_spec _ _ _ _) ?_
        simp only [go_sem, ↓reduceIte, Nat.reduceEqDiff, Nat.reduceLT, Nat.reduceLeDiff, Nat.reduceAdd, Int.reduceLE, Int.reduceLT, BitVec.reduceOfInt, BitVec.reduceToNat, hz1, hz2]
        refine again_mk (ji - 1) ⟨[(2, .ptr 0 0), (3, .ptr 1 0), (4, .ptr 2 0), (5, .ptr 3 0), (9, .i64 (i + 1 : Nat))], [some ⟨false, [.u64 x.1, .u64 x.2]⟩, some ⟨false, [.u64 (vT y (i + 1 : Nat)).1, .u64 (vT y (i + 1 : Nat)).2]⟩, some ⟨false, [.u64 0#64, .u64 0#64]⟩, some ⟨false, [.u64 (zT x y (i + 1 : Nat)).1, .u64 (zT x y (i + 1 : Nat)).2]⟩]⟩ (by omega) ?_ rfl (fun _ _ h => h) ⟨i + 1, by omega, rfl⟩
        have hw1 : w64 ((i : Int) + 1) = ((i + 1 : Nat) : Int) := by rw [w64_of (by omega) (by omega)]; omega
        simp [St.get, lookS, hw1, -List.map_set, -List.map_map]
      · have hbx : bitX x i = false := by unfold bitX; rw [if_neg h6]; exact decide_eq_false hb
        have hz1 : zT x y i = zT x y (i + 1) := by rw [zT, hbx]; rfl
        simp only [go_sem, ↓reduceIte, h0', h6', m1, m2, hb]
        refine ⟨by omega, ?_⟩
        rw [hz1]
        refine again_mk (ji - 1) ⟨[(2, .ptr 0 0), (3, .ptr 1 0), (4, .ptr 2 0), (5, .ptr 3 0), (9, .i64 (i + 1 : Nat))], [some ⟨false, [.u64 x.1, .u64 x.2]⟩, some ⟨false, [.u64 (vT y (i + 1 : Nat)).1, .u64 (vT y (i + 1 : Nat)).2]⟩, some ⟨false, [.u64 0#64, .u64 0#64]⟩, some ⟨false, [.u64 (zT x y (i + 1 : Nat)).1, .u64 (zT x y (i + 1 : Nat)).2]⟩]⟩ (by omega) ?_ rfl (fun _ _ h => h) ⟨i + 1, by omega, rfl⟩
        have hw1 : w64 ((i : Int) + 1) = ((i + 1 : Nat) : Int) := by rw [w64_of (by omega) (by omega)]; omega
        simp [St.get, lookS, hw1, -List.map_set, -List.map_map]
  · obtain rfl : i = 128 := by omega
    have h0' : ¬ ((128 : Nat) : Int) < 128 := by omega
    simp only [go_sem, ↓reduceIte, Int.reduceLT]
end Go.Vm
end
section
namespace Go.Vm
def bitP (p : BitVec 64 × BitVec 64) (k : Nat) : Bool := if k < 64 then p.1.getLsbD (63 - k) else if k < 128 then p.2.getLsbD (127 - k) else false
theorem bit_dec (w : BitVec 64) (n : Nat) : decide (w >>> n &&& 1#64 = 1#64) = w.getLsbD n := by
  have h : (w >>> n &&& 1#64).toNat = (w.getLsbD n).toNat := by
    rw [BitVec.toNat_and, BitVec.toNat_ushiftRight, Nat.shiftRight_eq_div_pow, show (1#64).toNat = 2 ^ 1 - 1 from rfl, Nat.and_two_pow_sub_one_eq_mod, BitVec.getLsbD, Nat.testBit_eq_decide_div_mod_eq]
    have := Nat.mod_two_eq_zero_or_one (w.toNat / 2 ^ n)
    rcases this with h | h <;> simp [h]
  cases hb : w.getLsbD n with
  | false =>
    rw [hb] at h
    apply decide_eq_false
    intro e; rw [e] at h; exact absurd h (by decide)
  | true =>
    rw [hb] at h
    exact decide_eq_true (BitVec.eq_of_toNat_eq h)
theorem bitX_eq (x : BitVec 64 × BitVec 64) (i : Nat) (h : i < 128) : bitX x i = bitP x i := by
  unfold bitX bitP
  by_cases h6 : 64 ≤ i
  · rw [if_pos h6, if_neg (by omega : ¬ i < 64), if_pos h, bit_dec, show 63 - i % 64 = 127 - i by omega]
  · rw [if_neg h6, if_pos (by omega : i < 64), bit_dec, show 63 - i % 64 = 63 - i by omega]
def tapB (k : Nat) : Bool := decide (k = 0 ∨ k = 1 ∨ k = 2 ∨ k = 7)
def stepF (g : Nat → Bool) (k : Nat) : Bool := (decide (1 ≤ k) && g (k - 1)) ^^ (g 127 && tapB k)
theorem tap_const : ∀ k, k < 64 → ((1#64 * 225#64) <<< 56).getLsbD (63 - k) = tapB k := by decide
theorem low_and (w : BitVec 64) : w &&& 1#64 = if w.getLsbD 0 then 1#64 else 0#64 := by
  have h := bit_dec w 0
  rw [BitVec.ushiftRight_zero] at h
  cases hb : w.getLsbD 0 with
  | true => rw [hb] at h; simpa using h
  | false =>
    apply BitVec.eq_of_toNat_eq
    have h2 : w.toNat % 2 = 0 := by
      have := hb
      rw [BitVec.getLsbD, Nat.testBit_eq_decide_div_mod_eq] at this
      simp at this; omega
    rw [BitVec.toNat_and, show (1#64).toNat = 2 ^ 1 - 1 from rfl, Nat.and_two_pow_sub_one_eq_mod, h2]; rfl
theorem stepV_bit (p : BitVec 64 × BitVec 64) (k : Nat) (h : k < 128) : bitP (stepV p) k = stepF (bitP p) k := by
  have h127 : bitP p 127 = p.2.getLsbD 0 := by unfold bitP; simp
  unfold stepF
  rw [h127]
  by_cases h6 : k < 64
  · have e1 : bitP (stepV p) k = (p.1.getLsbD (1 + (63 - k)) ^^ (((if p.2.getLsbD 0 then 1#64 else 0#64) * 225#64) <<< 56).getLsbD (63 - k)) := by
      unfold bitP stepV
      rw [if_pos h6, BitVec.getLsbD_xor, BitVec.getLsbD_ushiftRight, low_and]
    rw [e1]
    have e2 : (((if p.2.getLsbD 0 then 1#64 else 0#64) * 225#64) <<< 56).getLsbD (63 - k) = (p.2.getLsbD 0 && tapB k) := by
      cases p.2.getLsbD 0 with
      | true => simpa using tap_const k h6
      | false => simp
    have e3 : p.1.getLsbD (1 + (63 - k)) = (decide (1 ≤ k) && bitP p (k - 1)) := by
      by_cases hk : 1 ≤ k
      · unfold bitP
        rw [if_pos (by omega : k - 1 < 64), decide_eq_true hk, Bool.true_and, show 1 + (63 - k) = 63 - (k - 1) by omega]
      · obtain rfl : k = 0 := by omega
        rw [BitVec.getLsbD_of_ge _ _ (by decide)]; simp
    rw [e2, e3]
  · have hk : 1 ≤ k := by omega
    have ht : tapB k = false := decide_eq_false (by omega)
    have e1 : bitP (stepV p) k = (p.2.getLsbD (1 + (127 - k)) || (decide (127 - k < 64) && !decide (127 - k < 63) && p.1.getLsbD (127 - k - 63))) := by
      unfold bitP stepV
      rw [if_neg h6, if_pos h, BitVec.getLsbD_or, BitVec.getLsbD_ushiftRight, BitVec.getLsbD_shiftLeft]
    rw [e1, ht, decide_eq_true hk]
    by_cases hk4 : k = 64
    · subst hk4
      rw [BitVec.getLsbD_of_ge _ _ (by decide)]
      unfold bitP; simp
    · have : (127 - k < 63) := by omega
      unfold bitP
      rw [if_neg (by omega : ¬ k - 1 < 64), if_pos (by omega : k - 1 < 128), decide_eq_true this, show 1 + (127 - k) = 127 - (k - 1) by omega]
      simp
theorem bitP_xor (p q : BitVec 64 × BitVec 64) (k : Nat) : bitP (p.1 ^^^ q.1, p.2 ^^^ q.2) k = (bitP p k ^^ bitP q k) := by
  unfold bitP
  by_cases h : k < 64
  · simp [h]
  · by_cases h2 : k < 128 <;> simp [h, h2]
-- the reduction
theorem redK_xor (k : Nat) (f g : Nat → Bool) : redK k (fun m => f m ^^ g m) = fun m => redK k f m ^^ redK k g m := by
  funext m
  show ((f m ^^ g m) ^^ ((f k ^^ g k) && tapP k m)) = ((f m ^^ (f k && tapP k m)) ^^ (g m ^^ (g k && tapP k m)))
  cases f m <;> cases g m <;> cases f k <;> cases g k <;> cases tapP k m <;> rfl
theorem redTo_xor (f g : Nat → Bool) (r : Nat) : redTo (fun m => f m ^^ g m) r = fun m => redTo f r m ^^ redTo g r m := by
  induction r with
  | zero => rfl
  | succ r ih => rw [redTo, ih, redK_xor]; rfl
theorem redTo_low (f : Nat → Bool) (hf : ∀ k, 128 ≤ k → f k = false) : ∀ r, r ≤ 127 → redTo f r = f := by
  intro r
  induction r with
  | zero => intro _; rfl
  | succ r ih =>
    intro hr
    rw [redTo, ih (by omega)]
    funext m; unfold redK; rw [hf (254 - r) (by omega)]; simp
def sh (f : Nat → Bool) (k : Nat) : Bool := decide (1 ≤ k) && f (k - 1)
theorem redK_sh (k : Nat) (hk : 128 ≤ k) (f : Nat → Bool) : redK (k + 1) (sh f) = sh (redK k f) := by
  funext m
  unfold redK sh
  have e : (decide (1 ≤ k + 1) && f (k + 1 - 1)) = f k := by simp
  rw [e]
  by_cases hm : 1 ≤ m
  · have ht : tapP (k + 1) m = tapP k (m - 1) := by
      unfold tapP
      congr 1
      simp only [eq_iff_iff]
      omega
    rw [decide_eq_true hm, ht]; simp
  · have ht : tapP (k + 1) m = false := decide_eq_false (by omega)
    rw [decide_eq_false hm, ht]; simp
theorem redTo_sh (f : Nat → Bool) (hf : f 254 = false) : ∀ r, r ≤ 126 → redTo (sh f) r = sh (redTo f (r + 1)) := by
  intro r
  induction r with
  | zero =>
    intro _
    have : redTo f 1 = f := by
      rw [redTo, redTo]; funext m; unfold redK; rw [show 254 - 0 = 254 from rfl, hf]; simp
    rw [this]; rfl
  | succ r ih =>
    intro hr
    rw [redTo, ih (by omega), show 254 - r = (253 - r) + 1 by omega, redK_sh _ (by omega)]
    congr 1
    show _ = redK (254 - (r + 1)) _
    rw [show 254 - (r + 1) = 253 - r by omega]
theorem Rd_sh (f : Nat → Bool) (hf : f 254 = false) (m : Nat) (hm : m < 128) : redTo (sh f) 127 m = stepF (redTo f 127) m := by
  rw [redTo, redTo_sh f hf 126 (by omega)]
  unfold redK stepF sh
  have ht : tapP (254 - 126) m = tapB m := by unfold tapP tapB; rfl
  rw [ht]; simp
def shn (i : Nat) (f : Nat → Bool) (k : Nat) : Bool := decide (i ≤ k) && f (k - i)
theorem sh_shn (i : Nat) (f : Nat → Bool) : sh (shn i f) = shn (i + 1) f := by
  funext k; unfold sh shn
  by_cases h : 1 ≤ k
  · rw [decide_eq_true h, Bool.true_and, show (k - 1) - i = k - (i + 1) by omega]
    congr 1
    by_cases h2 : i ≤ k - 1
    · rw [decide_eq_true h2, decide_eq_true (by omega)]
    · rw [decide_eq_false h2, decide_eq_false (by omega)]
  · rw [decide_eq_false h, decide_eq_false (by omega : ¬ i + 1 ≤ k)]; simp
theorem Rd_shn (y : BitVec 64 × BitVec 64) : ∀ i, i ≤ 127 → ∀ m, m < 128 → redTo (shn i (bitP y)) 127 m = bitP (vT y i) m := by
  have hy : ∀ k, 128 ≤ k → bitP y k = false := fun k hk => by unfold bitP; rw [if_neg (by omega), if_neg (by omega)]
  intro i
  induction i with
  | zero =>
    intro _ m hm
    have : shn 0 (bitP y) = bitP y := by funext k; unfold shn; simp
    rw [this, redTo_low _ hy 127 (by omega)]; rfl
  | succ i ih =>
    intro hi m hm
    have h254 : shn i (bitP y) 254 = false := by unfold shn; rw [hy (254 - i) (by omega)]; simp
    rw [← sh_shn, Rd_sh _ h254 m hm, vT, stepV_bit _ _ hm]
    unfold stepF
    rw [ih (by omega) 127 (by omega)]
    by_cases h1 : 1 ≤ m
    · rw [ih (by omega) (m - 1) (by omega)]
    · rw [decide_eq_false h1]; simp
theorem prodF_step (A : Nat → Bool) (B : Nat → Bool) (y : BitVec 64 × BitVec 64) (hB : ∀ k, k < 128 → B k = bitP y k) (i : Nat) : prodF A B (i + 1) = fun k => prodF A B i k ^^ (A i && shn i (bitP y) k) := by
  funext k
  rw [prodF]
  congr 1
  rw [Bool.and_assoc]
  congr 1
  unfold shn
  by_cases h1 : i ≤ k
  · by_cases h2 : k < i + 128
    · rw [hB (k - i) (by omega), decide_eq_true ⟨h1, h2⟩, decide_eq_true h1]
    · have : bitP y (k - i) = false := by unfold bitP; rw [if_neg (by omega), if_neg (by omega)]
      rw [this, decide_eq_false (by omega : ¬ (i ≤ k ∧ k < i + 128))]; simp
  · rw [decide_eq_false h1, decide_eq_false (by omega : ¬ (i ≤ k ∧ k < i + 128))]; simp
theorem Rd_prod (x y : BitVec 64 × BitVec 64) (A B : Nat → Bool) (hA : ∀ k, k < 128 → A k = bitP x k) (hB : ∀ k, k < 128 → B k = bitP y k) : ∀ n, n ≤ 128 → ∀ m, m < 128 → redTo (prodF A B n) 127 m = bitP (zT x y n) m := by
  intro n
  induction n with
  | zero =>
    intro _ m _
    have : prodF A B 0 = fun _ => false := rfl
    rw [this, redTo_low _ (fun _ _ => rfl) 127 (by omega)]
    unfold bitP zT; simp
  | succ n ih =>
    intro hn m hm
    rw [prodF_step A B y hB n, redTo_xor]
    show (redTo (prodF A B n) 127 m ^^ redTo (fun k => A n && shn n (bitP y) k) 127 m) = _
    rw [ih (by omega) m hm, hA n (by omega), zT, bitX_eq x n (by omega)]
    cases bitP x n with
    | false =>
      have : (fun k => false && shn n (bitP y) k) = fun _ => false := by funext k; simp
      rw [this, redTo_low _ (fun _ _ => rfl) 127 (by omega)]; simp
    | true =>
      have : (fun k => true && shn n (bitP y) k) = shn n (bitP y) := by funext k; simp
      rw [this, Rd_shn y n (by omega) m hm, if_pos rfl, bitP_xor (zT x y n) (vT y n)]
-- the bytes
theorem byte_bits : ∀ x0 x1 x2 x3 x4 x5 x6 x7 : Bool, (BitVec.ofInt 8 (acc8 x0 x1 x2 x3 x4 x5 x6 x7)).getLsbD 7 = x0 ∧ (BitVec.ofInt 8 (acc8 x0 x1 x2 x3 x4 x5 x6 x7)).getLsbD 6 = x1 ∧ (BitVec.ofInt 8 (acc8 x0 x1 x2 x3 x4 x5 x6 x7)).getLsbD 5 = x2 ∧ (BitVec.ofInt 8 (acc8 x0 x1 x2 x3 x4 x5 x6 x7)).getLsbD 4 = x3 ∧ (BitVec.ofInt 8 (acc8 x0 x1 x2 x3 x4 x5 x6 x7)).getLsbD 3 = x4 ∧ (BitVec.ofInt 8 (acc8 x0 x1 x2 x3 x4 x5 x6 x7)).getLsbD 2 = x5 ∧ (BitVec.ofInt 8 (acc8 x0 x1 x2 x3 x4 x5 x6 x7)).getLsbD 1 = x6 ∧ (BitVec.ofInt 8 (acc8 x0 x1 x2 x3 x4 x5 x6 x7)).getLsbD 0 = x7 := by
  exact of_decide_eq_true (by kernel_rfl)
theorem outF_bit (f : Nat → Bool) (k : Nat) (h : k < 128) : bitS (outF f 16) k = f k := by
  unfold bitS outF
  rw [List.getD_eq_getElem?_getD, List.getElem?_map, List.getElem?_range (by omega : k / 8 < 16)]
  show (byteF f (k / 8)).getLsbD (7 - k % 8) = f k
  unfold byteF
  obtain ⟨h0, h1, h2, h3, h4, h5, h6, h7⟩ := byte_bits (f (8 * (k / 8))) (f (8 * (k / 8) + 1)) (f (8 * (k / 8) + 2)) (f (8 * (k / 8) + 3)) (f (8 * (k / 8) + 4)) (f (8 * (k / 8) + 5)) (f (8 * (k / 8) + 6)) (f (8 * (k / 8) + 7))
  have hk : k = 8 * (k / 8) + k % 8 := by omega
  have hr : k % 8 < 8 := by omega
  generalize hq : k / 8 = q at *
  generalize hrr : k % 8 = r at *
  subst hk
  match r, hr with
  | 0, _ => exact h0
  | 1, _ => exact h1
  | 2, _ => exact h2
  | 3, _ => exact h3
  | 4, _ => exact h4
  | 5, _ => exact h5
  | 6, _ => exact h6
  | 7, _ => exact h7
theorem beB8_bit (n : BitVec 64) (k : Nat) (h : k < 64) : ((beB n.toNat 8).getD (k / 8) 0).getLsbD (7 - k % 8) = n.getLsbD (63 - k) := by
  rw [beB8]
  have hk : k = 8 * (k / 8) + k % 8 := by omega
  have hr : k % 8 < 8 := by omega
  have hq8 : k / 8 < 8 := by omega
  generalize hq : k / 8 = q at *
  generalize hrr : k % 8 = r at *
  subst hk
  have key : ∀ s, ((n >>> s).setWidth 8).getLsbD (7 - r) = n.getLsbD (s + (7 - r)) := fun s => by
    rw [BitVec.getLsbD_setWidth, BitVec.getLsbD_ushiftRight, decide_eq_true (by omega : 7 - r < 8), Bool.true_and]
  match q, hq8 with
  | 0, _ => exact (key 56).trans (by congr 1; omega)
  | 1, _ => exact (key 48).trans (by congr 1; omega)
  | 2, _ => exact (key 40).trans (by congr 1; omega)
  | 3, _ => exact (key 32).trans (by congr 1; omega)
  | 4, _ => exact (key 24).trans (by congr 1; omega)
  | 5, _ => exact (key 16).trans (by congr 1; omega)
  | 6, _ => exact (key 8).trans (by congr 1; omega)
  | 7, _ => exact (key 0).trans (by congr 1; omega)
theorem text_bit (p : BitVec 64 × BitVec 64) (k : Nat) (h : k < 128) : bitS (beB p.1.toNat 8 ++ beB p.2.toNat 8) k = bitP p k := by
  have hl := beB_length p.1.toNat 8
  unfold bitS bitP
  by_cases h6 : k < 64
  · rw [if_pos h6, List.getD_eq_getElem?_getD, List.getElem?_append_left (by omega), ← List.getD_eq_getElem?_getD, beB8_bit _ _ h6]
  · have h8 := beB8_bit p.2 (k - 64) (by omega)
    rw [if_neg h6, if_pos h, List.getD_eq_getElem?_getD, List.getElem?_append_right (by omega), ← List.getD_eq_getElem?_getD, hl, show k / 8 - 8 = (k - 64) / 8 by omega, show 7 - k % 8 = 7 - (k - 64) % 8 by omega, h8, show 63 - (k - 64) = 127 - k by omega]
theorem read_bit (s : List (BitVec 8)) (h : s.length = 16) (k : Nat) (hk : k < 128) : bitS s k = bitP (BitVec.ofNat 64 (be (s.take 8)), BitVec.ofNat 64 (be (s.drop 8))) k := by
  have h1 : (s.take 8).length = 8 := by rw [List.length_take]; omega
  have h2 : (s.drop 8).length = 8 := by rw [List.length_drop]; omega
  have t1 : beB (BitVec.ofNat 64 (be (s.take 8))).toNat 8 = s.take 8 := by
    have hlt := be_lt (s.take 8)
    rw [h1] at hlt
    rw [BitVec.toNat_ofNat, Nat.mod_eq_of_lt (by omega)]
    have := beB_be (s.take 8)
    rwa [h1] at this
  have t2 : beB (BitVec.ofNat 64 (be (s.drop 8))).toNat 8 = s.drop 8 := by
    have hlt := be_lt (s.drop 8)
    rw [h2] at hlt
    rw [BitVec.toNat_ofNat, Nat.mod_eq_of_lt (by omega)]
    have := beB_be (s.drop 8)
    rwa [h2] at this
  rw [← text_bit _ k hk, t1, t2, List.take_append_drop]
theorem bits_ext (s t : List (BitVec 8)) (hs : s.length = 16) (ht : t.length = 16) (h : ∀ k, k < 128 → bitS s k = bitS t k) : s = t := by
  apply List.ext_getElem (by omega)
  intro i h1 h2
  apply BitVec.eq_of_getLsbD_eq
  intro j hj
  have := h (8 * i + (7 - j)) (by omega)
  unfold bitS at this
  rw [show (8 * i + (7 - j)) / 8 = i by omega, show 7 - (8 * i + (7 - j)) % 8 = j by omega, List.getD_eq_getElem?_getD, List.getD_eq_getElem?_getD, List.getElem?_eq_getElem h1, List.getElem?_eq_getElem h2] at this
  exact this
def rdP (s : List (BitVec 8)) : BitVec 64 × BitVec 64 := (BitVec.ofNat 64 (be (s.take 8)), BitVec.ofNat 64 (be (s.drop 8)))
def ghB (a b : List (BitVec 8)) : List (BitVec 8) := beB (zT (rdP a) (rdP b) 128).1.toNat 8 ++ beB (zT (rdP a) (rdP b) 128).2.toNat 8
theorem ghash_eq (a b : List (BitVec 8)) (h1 : a.length = 16) (h2 : b.length = 16) : outF (redTo (prodF (bitS a) (bitS b) 128) 127) 16 = ghB a b := by
  apply bits_ext
  · exact outF_length _ _
  · unfold ghB; rw [List.length_append, beB_length, beB_length]
  intro k hk
  rw [outF_bit _ k hk]
  unfold ghB
  rw [text_bit _ k hk]
  exact Rd_prod (rdP a) (rdP b) (bitS a) (bitS b) (fun k hk => read_bit a h1 k hk) (fun k hk => read_bit b h2 k hk) 128 (by omega) k hk
end Go.Vm
end
section
namespace Go.Vm
abbrev Pr := BitVec 64 × BitVec 64
def textP (p : Pr) : List (BitVec 8) := beB p.1.toNat 8 ++ beB p.2.toNat 8
theorem textP_length (p : Pr) : (textP p).length = 16 := by unfold textP; rw [List.length_append, beB_length, beB_length]
theorem pair_ext (p q : Pr) (h : ∀ k, k < 128 → bitP p k = bitP q k) : p = q := by
  apply Prod.ext
  · apply BitVec.eq_of_getLsbD_eq
    intro i hi
    have := h (63 - i) (by omega)
    unfold bitP at this
    rw [if_pos (by omega), if_pos (by omega), show 63 - (63 - i) = i by omega] at this
    exact this
  · apply BitVec.eq_of_getLsbD_eq
    intro i hi
    have := h (127 - i) (by omega)
    unfold bitP at this
    rw [if_neg (by omega), if_pos (by omega), if_neg (by omega), if_pos (by omega), show 127 - (127 - i) = i by omega] at this
    exact this
theorem rdP_bit (s : List (BitVec 8)) (h : s.length = 16) (k : Nat) (hk : k < 128) : bitP (rdP s) k = bitS s k := (read_bit s h k hk).symm
theorem xorB_bit (a b : List (BitVec 8)) (h1 : a.length = 16) (h2 : b.length = 16) (k : Nat) (hk : k < 128) : bitS (xorB a b) k = (bitS a k ^^ bitS b k) := by
  unfold bitS
  rw [xorB_getD a b (k / 8) (by omega) (by omega), BitVec.getLsbD_xor]
theorem rdP_xor (p : Pr) (c : List (BitVec 8)) (h : c.length = 16) : rdP (xorB (textP p) c) = (p.1 ^^^ (rdP c).1, p.2 ^^^ (rdP c).2) := by
  have hl := textP_length p
  apply pair_ext
  intro k hk
  rw [rdP_bit _ (by rw [xorB_length, hl, h]; rfl) k hk, xorB_bit _ _ hl h k hk, bitP_xor p (rdP c) k, rdP_bit c h k hk]
  congr 1
  exact text_bit p k hk
def stepG (h p : Pr) (c : List (BitVec 8)) : Pr := zT (p.1 ^^^ (rdP c).1, p.2 ^^^ (rdP c).2) h 128
theorem ghB_step (h : List (BitVec 8)) (p : Pr) (c : List (BitVec 8)) (hc : c.length = 16) : ghB (xorB (textP p) c) h = textP (stepG (rdP h) p c) := by
  unfold ghB stepG textP
  have := rdP_xor p c hc
  unfold textP at this
  rw [this]
def padB (s : List (BitVec 8)) : List (BitVec 8) := s ++ List.replicate (16 - s.length) 0
theorem padB_length (s : List (BitVec 8)) (h : s.length ≤ 16) : (padB s).length = 16 := by unfold padB; rw [List.length_append, List.length_replicate]; omega
theorem padB_full (s : List (BitVec 8)) (h : s.length = 16) : padB s = s := by unfold padB; rw [h]; simp
def chunk (t : List (BitVec 8)) (i : Nat) : List (BitVec 8) := padB ((t.drop (16 * i)).take 16)
def accG (h p : Pr) (t : List (BitVec 8)) : Nat → Pr
  | 0 => p
  | i + 1 => stepG h (accG h p t i) (chunk t i)
theorem accG_congr (h p : Pr) (t u : List (BitVec 8)) (n : Nat) (e : ∀ i, i < n → chunk t i = chunk u i) : accG h p t n = accG h p u n := by
  induction n with
  | zero => rfl
  | succ n ih => rw [accG, accG, ih (fun i hi => e i (by omega)), e n (by omega)]
theorem accG_append (h p : Pr) (a b : List (BitVec 8)) (n : Nat) (hn : a.length = 16 * n) : ∀ i, accG h p (a ++ b) (n + i) = accG h (accG h p a n) b i := by
  intro i
  induction i with
  | zero =>
    refine accG_congr h p _ _ n fun i hi => ?_
    unfold chunk
    rw [List.drop_append_of_le_length (by omega), List.take_append_of_le_length (by rw [List.length_drop]; omega)]
  | succ i ih =>
    rw [← Nat.add_assoc, accG, ih, accG]
    congr 1
    unfold chunk
    rw [List.drop_append, List.drop_of_length_le (by omega), List.nil_append, show 16 * (n + i) - a.length = 16 * i by omega]
/-- Filled up with naught to a multiple of 16. -/
theorem accG_fill (h p : Pr) (s : List (BitVec 8)) : accG h p (fillB s) ((s.length + 15) / 16) = accG h p s ((s.length + 15) / 16) := by
  refine accG_congr h p _ _ _ fun i hi => ?_
  unfold chunk fillB
  by_cases hf : 16 * i + 16 ≤ s.length
  · rw [List.drop_append_of_le_length (by omega), List.take_append_of_le_length (by rw [List.length_drop]; omega)]
  · have hd : (s.drop (16 * i)).length = s.length - 16 * i := List.length_drop
    rw [List.drop_append_of_le_length (by omega), List.take_of_length_le (l := s.drop (16 * i)) (by omega), List.take_of_length_le (by rw [List.length_append, List.length_replicate]; omega)]
    rw [padB_full (s.drop (16 * i) ++ _) (by rw [List.length_append, List.length_replicate]; omega)]
    unfold padB
    rw [hd, show (16 - s.length % 16) % 16 = 16 - (s.length - 16 * i) by omega]
end Go.Vm
end
section
namespace Go.Vm
open Go.Proofs
set_option maxRecDepth 20000
theorem splice_pad (x : List (BitVec 8)) (h : x.length ≤ 16) : splice [V.u8 0#8, V.u8 0#8, V.u8 0#8, V.u8 0#8, V.u8 0#8, V.u8 0#8, V.u8 0#8, V.u8 0#8, V.u8 0#8, V.u8 0#8, V.u8 0#8, V.u8 0#8, V.u8 0#8, V.u8 0#8, V.u8 0#8, V.u8 0#8] 0 (x.map V.u8) = (padB x).map V.u8 := by
  rcases x with _ | ⟨a, _ | ⟨b, l⟩⟩
  · rfl
  · rfl
  · have hz : [V.u8 0#8, V.u8 0#8, V.u8 0#8, V.u8 0#8, V.u8 0#8, V.u8 0#8, V.u8 0#8, V.u8 0#8, V.u8 0#8, V.u8 0#8, V.u8 0#8, V.u8 0#8, V.u8 0#8, V.u8 0#8, V.u8 0#8, V.u8 0#8] = List.replicate 16 (V.u8 0#8) := rfl
    rw [hz]
    generalize hy : a :: b :: l = y at h
    have hs : splice (List.replicate 16 (V.u8 0#8)) 0 (y.map V.u8) = (List.replicate 16 (V.u8 0#8)).take 0 ++ y.map V.u8 ++ (List.replicate 16 (V.u8 0#8)).drop (0 + (y.map V.u8).length) := by subst hy; rfl
    rw [hs]
    unfold padB
    simp only [List.take_zero, List.nil_append, Nat.zero_add, List.length_map, List.drop_replicate, List.map_append, List.map_replicate]
    rfl
theorem take_spec (h t : List (BitVec 8)) (p : Pr) (hh : h.length = 16) (ht : t.length ≤ 140737488351232) : Spec0 Tryz.prog 145 [.str t, .ptr 0 0, .ptr 1 0] [some ⟨false, [.u64 p.1, .u64 p.2]⟩, some ⟨false, [.str h]⟩] (.tup []) [some ⟨false, [.u64 (accG (rdP h) p t ((t.length + 15) / 16)).1, .u64 (accG (rdP h) p t ((t.length + 15) / 16)).2]⟩, some ⟨false, [.str h]⟩] := by
  refine spec0_of_vc (by kernel_rfl) (fn := Tryz.f145) Tryz.func145 rfl (by show 3 ≤ 23; decide) (go_start ?_)
  simp only [go_sem, Nat.reduceAdd, Tryz.ntmps145]
  refine go_loop (fun ji st => ∃ i : Nat, i + ji = (t.length + 15) / 16 ∧ st = ⟨[(0, .str (t.drop (16 * i))), (1, .ptr 0 0), (2, .ptr 1 0)], [some ⟨false, [.u64 (accG (rdP h) p t i).1, .u64 (accG (rdP h) p t i).2]⟩, some ⟨false, [.str h]⟩]⟩) ?_ ?_
  · exact start_mk ((t.length + 15) / 16) ⟨[(0, .str (t.drop (16 * (0 : Nat)))), (1, .ptr 0 0), (2, .ptr 1 0)], [some ⟨false, [.u64 (accG (rdP h) p t (0 : Nat)).1, .u64 (accG (rdP h) p t (0 : Nat)).2]⟩, some ⟨false, [.str h]⟩]⟩ (by simp [St.get, lookS, -List.map_set, -List.map_map]) rfl (fun _ _ h => h) ⟨0, by omega, rfl⟩
  rintro ji st ⟨i, hi, rfl⟩ _
  simp only [go_sem, ↓reduceIte, Nat.reduceEqDiff, Nat.reduceLT, Nat.reduceAdd, Int.reduceLE, Int.reduceToNat, Int.reduceSub, reduceCtorEq]
  have hd : (t.drop (16 * i)).length = t.length - 16 * i := List.length_drop
  by_cases h0 : 16 * i < t.length
  · have hne : ¬ t.drop (16 * i) = [] := fun e => by rw [e] at hd; simp at hd; omega
    have hX : (t.drop (16 * i)).take (min (t.length - 16 * i) 16) = (t.drop (16 * i)).take 16 := by
      by_cases hc : 16 ≤ t.length - 16 * i
      · rw [Nat.min_eq_right hc]
      · rw [Nat.min_eq_left (by omega), List.take_of_length_le (by omega), List.take_of_length_le (by omega)]
    have hsp := splice_pad ((t.drop (16 * i)).take 16) (by rw [List.length_take]; omega)
    rw [show padB ((t.drop (16 * i)).take 16) = chunk t i from rfl] at hsp
    have hcl : (chunk t i).length = 16 := padB_length _ (by rw [List.length_take]; omega)
    have hrd := read_spec (chunk t i) hcl
    have hrh := read_spec h hh
    have hpl := plus_spec (accG (rdP h) p t i).1 (accG (rdP h) p t i).2 (rdP (chunk t i)).1 (rdP (chunk t i)).2
    have htm := times_spec ((accG (rdP h) p t i).1 ^^^ (rdP (chunk t i)).1, (accG (rdP h) p t i).2 ^^^ (rdP (chunk t i)).2) (rdP h)
    have hst : zT ((accG (rdP h) p t i).1 ^^^ (rdP (chunk t i)).1, (accG (rdP h) p t i).2 ^^^ (rdP (chunk t i)).2) (rdP h) 128 = accG (rdP h) p t (i + 1) := rfl
    rw [hst] at htm
    rw [show (BitVec.ofNat 64 (be (List.take 8 (chunk t i)))) = (rdP (chunk t i)).1 from rfl, show (BitVec.ofNat 64 (be (List.drop 8 (chunk t i)))) = (rdP (chunk t i)).2 from rfl] at hrd
    rw [show (BitVec.ofNat 64 (be (List.take 8 h))) = (rdP h).1 from rfl, show (BitVec.ofNat 64 (be (List.drop 8 h))) = (rdP h).2 from rfl] at hrh
    simp only [go_sem, ↓reduceIte, hne, hX, hsp, hcl, List.take_of_length_le]
    refine goCallD_pure0 (hrd) ?_
    simp only [go_sem, ↓reduceIte, Nat.reduceEqDiff, Nat.reduceLT]
    refine goCallD_pure0 (hpl) ?_
    simp only [go_sem, ↓reduceIte, Nat.reduceEqDiff, Nat.reduceLT, Nat.reduceAdd, reduceCtorEq]
    refine goCallD_pure0 (hrh) ?_
    simp only [go_sem, ↓reduceIte, Nat.reduceEqDiff, Nat.reduceLT]
    refine goCallD_pure0 (htm) ?_
    simp only [go_sem, ↓reduceIte, Nat.reduceEqDiff, Nat.reduceLT, Nat.reduceAdd, reduceCtorEq]
    refine ⟨by kernel_rfl, ?_⟩
    have hmn : (if ((t.length - 16 * i : Nat) : Int) < 16 then ((t.length - 16 * i : Nat) : Int) else 16) = ((min (t.length - 16 * i) 16 : Nat) : Int) := by split <;> omega
    have hdr : ((t.drop (16 * i)).take (t.length - 16 * i)).drop (min (t.length - 16 * i) 16) = t.drop (16 * (i + 1)) := by
      rw [List.take_of_length_le (by omega), List.drop_drop]
      by_cases hh : 16 ≤ t.length - 16 * i
      · rw [Nat.min_eq_right hh, Nat.mul_add]
      · rw [Nat.min_eq_left (by omega), List.drop_of_length_le (by omega), List.drop_of_length_le (by omega)]
    simp only [hmn, Int.toNat_natCast, hdr]
    refine ⟨⟨by omega, by omega⟩, ?_⟩
    have hw1 : w64 ((i : Int) + 1) = ((i + 1 : Nat) : Int) := by rw [w64_of (by omega) (by omega)]; omega
    refine again_ren (ji - 1) ⟨[(0, .str (t.drop (16 * (i + 1 : Nat)))), (1, .ptr 0 0), (2, .ptr 1 0)], [some ⟨false, [.u64 (accG (rdP h) p t (i + 1 : Nat)).1, .u64 (accG (rdP h) p t (i + 1 : Nat)).2]⟩, some ⟨false, [.str h]⟩]⟩ [0, 1] (by omega) rfl (by simp) rfl (by decide) (by simp [slotsOk, St.get, lookS, -List.map_map, -List.map_set, accG]) (by simp [-List.map_map, -List.map_set, accG]) ⟨i + 1, by omega, rfl⟩
  · have he : t.drop (16 * i) = [] := List.drop_of_length_le (by omega)
    obtain rfl : i = (t.length + 15) / 16 := by omega
    simp only [go_sem, ↓reduceIte, he]
    exact Fin.ren [0, 1] (by simp) (by simp) (by rfl) (by decide) (by simp [-List.map_map, -List.map_set]) (by simp [-List.map_map, -List.map_set])
def lensB (l s : List (BitVec 8)) : List (BitVec 8) := beB (BitVec.ofInt 64 (l.length : Int) * 8#64).toNat 8 ++ beB (BitVec.ofInt 64 (s.length : Int) * 8#64).toNat 8
theorem lensB_length (l s : List (BitVec 8)) : (lensB l s).length = 16 := by unfold lensB; rw [List.length_append, beB_length, beB_length]
def sumP (h l s : List (BitVec 8)) : Pr := accG (rdP h) (accG (rdP h) (accG (rdP h) (0#64, 0#64) l ((l.length + 15) / 16)) s ((s.length + 15) / 16)) (lensB l s) 1
theorem Sum_spec (h l s : List (BitVec 8)) (hh : h.length = 16) (hl : l.length ≤ 140737488351232) (hs : s.length ≤ 140737488351232) : PureFn Tryz.prog 140 [.str h, .str l, .str s] (.tup [.str (textP (sumP h l s)), .i64 0]) := by
  have h' : (h.length : Int) = 16 := by omega
  have t1 := take_spec h l (0#64, 0#64) hh hl
  have t2 := take_spec h s (accG (rdP h) (0#64, 0#64) l ((l.length + 15) / 16)) hh hs
  have t3 := take_spec h (lensB l s) (accG (rdP h) (accG (rdP h) (0#64, 0#64) l ((l.length + 15) / 16)) s ((s.length + 15) / 16)) hh (by rw [lensB_length]; omega)
  rw [lensB_length, show accG (rdP h) (accG (rdP h) (accG (rdP h) (0#64, 0#64) l ((l.length + 15) / 16)) s ((s.length + 15) / 16)) (lensB l s) ((16 + 15) / 16) = sumP h l s from rfl] at t3
  have b1 := AppBig8_nil (BitVec.ofInt 64 (l.length : Int) * 8#64)
  have hb8 := beB_length (BitVec.ofInt 64 (l.length : Int) * 8#64).toNat 8
  have b2 := AppBig8_some (beB (BitVec.ofInt 64 (l.length : Int) * 8#64).toNat 8) (BitVec.ofInt 64 (s.length : Int) * 8#64) (by omega)
  rw [hb8, show beB (BitVec.ofInt 64 (l.length : Int) * 8#64).toNat 8 ++ beB (BitVec.ofInt 64 (s.length : Int) * 8#64).toNat 8 = lensB l s from rfl] at b2
  have hx := text2_spec (sumP h l s).1 (sumP h l s).2
  rw [show beB (sumP h l s).1.toNat 8 ++ beB (sumP h l s).2.toNat 8 = textP (sumP h l s) from rfl] at hx
  refine pure_of_vc (by kernel_rfl) (fn := Tryz.f140) (by kernel_rfl) Tryz.func140 rfl (by show 3 ≤ 35; decide) (by simp [lows, V.low]) (by simp [lows, V.low]) (go_start ?_)
  simp only [go_sem, ↓reduceIte, Nat.reduceEqDiff, Nat.reduceLT, Nat.reduceAdd, Tryz.ntmps140, h']
  refine goCall_mem [1, 0] (t1) (by kernel_rfl) (by simp [-List.map_map, -List.map_set]) rfl (by simp [-List.map_map, -List.map_set]) (by decide) (by simp [-List.map_map, -List.map_set]) (by simp [-List.map_map, -List.map_set]) (by simp [-List.map_map, -List.map_set]) (by simp [-List.map_map, -List.map_set]) (by simp) ?_
  simp only [go_sem, ↓reduceIte, Nat.reduceEqDiff, Nat.reduceLT, Nat.reduceAdd, Nat.reduceSub, reduceCtorEq]
  refine goCall_mem [1, 0] (t2) (by kernel_rfl) (by simp [-List.map_map, -List.map_set]) rfl (by simp [-List.map_map, -List.map_set]) (by decide) (by simp [-List.map_map, -List.map_set]) (by simp [-List.map_map, -List.map_set]) (by simp [-List.map_map, -List.map_set]) (by simp [-List.map_map, -List.map_set]) (by simp) ?_
  simp only [go_sem, ↓reduceIte, Nat.reduceEqDiff, Nat.reduceLT, Nat.reduceAdd, Nat.reduceSub, Int.reduceLE, Int.reduceLT, BitVec.reduceOfInt]
  refine goCall_mem [] (b1) (by kernel_rfl) (by simp [-List.map_map, -List.map_set]) rfl (by simp [-List.map_map, -List.map_set]) (by decide) (by simp [-List.map_map, -List.map_set]) (by simp [-List.map_map, -List.map_set]) (by simp [-List.map_map, -List.map_set]) (by simp [-List.map_map, -List.map_set]) (by simp) ?_
  simp only [go_sem, ↓reduceIte, Nat.reduceEqDiff, Nat.reduceLT, Nat.reduceAdd, Nat.reduceSub, Int.reduceLE, Int.reduceLT, BitVec.reduceOfInt, reduceCtorEq]
  refine goCall_mem [2] (b2) (by kernel_rfl) (by simp [-List.map_map, -List.map_set]) rfl (by simp [-List.map_map, -List.map_set]) (by decide) (by simp [-List.map_map, -List.map_set]) (by simp [-List.map_map, -List.map_set]) (by simp [-List.map_map, -List.map_set]) (by simp [-List.map_map, -List.map_set]) (by simp) ?_
  simp only [go_sem, ↓reduceIte, Nat.reduceEqDiff, Nat.reduceLT, Nat.reduceAdd, Nat.reduceSub, lensB_length, List.take_of_length_le]
  refine goCall_mem [1, 0] (t3) (by kernel_rfl) (by simp [-List.map_map, -List.map_set]) rfl (by simp [-List.map_map, -List.map_set]) (by decide) (by simp [-List.map_map, -List.map_set]) (by simp [-List.map_map, -List.map_set]) (by simp [-List.map_map, -List.map_set]) (by simp [-List.map_map, -List.map_set]) (by simp) ?_
  simp only [go_sem, ↓reduceIte, Nat.reduceEqDiff, Nat.reduceLT, Nat.reduceAdd, Nat.reduceSub]
  refine goCall_pure0 (hx) ?_
  simp only [go_sem, ↓reduceIte, Nat.reduceLT]
end Go.Vm
end
section
namespace Go.Vm
open Go.Proofs
set_option maxRecDepth 20000
def allB (l s : List (BitVec 8)) : List (BitVec 8) := fillB l ++ (fillB s ++ lensB l s)
theorem allB_length (l s : List (BitVec 8)) : (allB l s).length = 16 * ((l.length + 15) / 16 + ((s.length + 15) / 16 + 1)) := by
  unfold allB; rw [List.length_append, List.length_append, fillB_length, fillB_length, lensB_length]; omega
theorem all_sum (h l s : List (BitVec 8)) : accG (rdP h) (0#64, 0#64) (allB l s) ((l.length + 15) / 16 + ((s.length + 15) / 16 + 1)) = sumP h l s := by
  unfold allB sumP
  rw [accG_append _ _ _ _ _ (fillB_length l), accG_append _ _ _ _ _ (fillB_length s), accG_fill, accG_fill]
theorem RSum_spec (h l s : List (BitVec 8)) (hh : h.length = 16) (hl : l.length ≤ 140737488351232) (hs : s.length ≤ 140737488351232) : PureFn Tryz.prog 53 [.str h, .str l, .str s] (.tup [.str (textP (sumP h l s)), .i64 0]) := by
  have h' : (h.length : Int) = 16 := by omega
  have hz : List.replicate 16 0#8 = textP (0#64, 0#64) := by decide
  have hzs := zeros_spec 16 (by decide)
  rw [hz] at hzs
  have hla := allB_length l s
  have hfl := fillB_length l
  have hfs := fillB_length s
  have g1 := high_spec 8 (by decide) (8#64 * BitVec.ofInt 64 (l.length : Int))
  have g2 := high_spec 8 (by decide) (8#64 * BitVec.ofInt 64 (s.length : Int))
  have hb1 := beB_length (8#64 * BitVec.ofInt 64 (l.length : Int)).toNat 8
  have hb2 := beB_length (8#64 * BitVec.ofInt 64 (s.length : Int)).toNat 8
  have hall : fillB l ++ (fillB s ++ (beB (8#64 * BitVec.ofInt 64 (l.length : Int)).toNat 8 ++ beB (8#64 * BitVec.ofInt 64 (s.length : Int)).toNat 8)) = allB l s := by
    unfold allB lensB; rw [BitVec.mul_comm (8#64) (BitVec.ofInt 64 (l.length : Int)), BitVec.mul_comm (8#64) (BitVec.ofInt 64 (s.length : Int))]
  have hsum := all_sum h l s
  refine pure_of_vc (by kernel_rfl) (fn := Tryz.f53) (by kernel_rfl) Tryz.func53 rfl (by show 3 ≤ 45; decide) (by simp [lows, V.low]) (by simp [lows, V.low]) (go_start ?_)
  simp only [go_sem, ↓reduceIte, Nat.reduceLT, Nat.reduceAdd, reduceCtorEq, Tryz.ntmps53, h']
  refine goCall_pure0 (hzs) ?_
  simp only [go_sem, ↓reduceIte, Nat.reduceEqDiff, Nat.reduceLT]
  refine goCall_pure0 (filled_spec l hl) ?_
  simp only [go_sem, ↓reduceIte, Nat.reduceEqDiff, Nat.reduceLT, reduceCtorEq]
  refine goCall_pure0 (filled_spec s hs) ?_
  simp only [go_sem, ↓reduceIte, Nat.reduceEqDiff, Nat.reduceLT, Int.reduceLE, Int.reduceLT, BitVec.reduceOfInt, hfl, hfs]
  refine ⟨by omega, ?_⟩
  refine goCall_pure0 (g1) ?_
  simp only [go_sem, ↓reduceIte, Nat.reduceEqDiff, Nat.reduceLT, Nat.reduceLeDiff, Int.reduceLE, Int.reduceLT, BitVec.reduceOfInt, reduceCtorEq, hb1, hfl, hfs]
  refine ⟨by omega, ?_⟩
  refine goCall_pure0 (g2) ?_
  simp only [go_sem, ↓reduceIte, Nat.reduceEqDiff, Nat.reduceLT, Nat.reduceLeDiff, hb1, hb2, hfl, hfs, List.append_assoc, hall]
  refine ⟨by omega, ?_⟩
  generalize allB l s = a at hla hsum ⊢
  generalize hN : (l.length + 15) / 16 + ((s.length + 15) / 16 + 1) = n at hla hsum ⊢
  refine go_loop (fun ji st => ∃ i : Nat, i + ji = n ∧ st = ⟨[(0, .str h), (8, .str (textP (accG (rdP h) (0#64, 0#64) a i))), (9, .str (a.drop (16 * i)))], []⟩) ?_ ?_
  · exact start_mk (n) ⟨[(0, .str h), (8, .str (textP (accG (rdP h) (0#64, 0#64) a (0 : Nat)))), (9, .str (a.drop (16 * (0 : Nat))))], []⟩ (by simp [St.get, lookS, -List.map_set, -List.map_map, accG]) rfl (fun _ _ h => h) ⟨0, by omega, rfl⟩
  rintro ji st ⟨i, hi, rfl⟩ _
  simp only [go_sem, ↓reduceIte, Nat.reduceEqDiff, Nat.reduceLT, Int.reduceLE, Int.reduceToNat, reduceCtorEq]
  have hd : (a.drop (16 * i)).length = a.length - 16 * i := List.length_drop
  by_cases h0 : i < n
  · have hne : ¬ a.drop (16 * i) = [] := fun e => by rw [e] at hd; simp at hd; omega
    have k1 : (16 : Int) ≤ ((a.length - 16 * i : Nat) : Int) := by omega
    have hc : (a.drop (16 * i)).take 16 = chunk a i := (padB_full _ (by rw [List.length_take]; omega)).symm
    have hcl : (chunk a i).length = 16 := padB_length _ (by rw [List.length_take]; omega)
    have htl := textP_length (accG (rdP h) (0#64, 0#64) a i)
    have hx := RXor_spec (textP (accG (rdP h) (0#64, 0#64) a i)) (chunk a i) (by omega) (by omega)
    have hg := RGhash_spec (xorB (textP (accG (rdP h) (0#64, 0#64) a i)) (chunk a i)) h (by rw [xorB_length]; omega) hh
    rw [ghash_eq _ _ (by rw [xorB_length]; omega) hh, ghB_step _ _ _ hcl, show stepG (rdP h) (accG (rdP h) (0#64, 0#64) a i) (chunk a i) = accG (rdP h) (0#64, 0#64) a (i + 1) from rfl] at hg
    simp only [go_sem, ↓reduceIte, hne, k1, hc]
    refine goCall_pure0 (hx) ?_
    simp only [go_sem, ↓reduceIte, Nat.reduceLT, reduceCtorEq]
    refine goCall_pure0 (hg) ?_
    simp only [go_sem, ↓reduceIte, Nat.reduceEqDiff, Nat.reduceLT, Int.reduceLE, Int.reduceToNat, reduceCtorEq, hd, k1]
    have hdr : ((a.drop (16 * i)).take (a.length - 16 * i)).drop 16 = a.drop (16 * (i + 1)) := by
      rw [List.take_of_length_le (by omega), List.drop_drop, Nat.mul_add]
    simp only [hdr]
    refine again_mk (ji - 1) ⟨[(0, .str h), (8, .str (textP (accG (rdP h) (0#64, 0#64) a (i + 1 : Nat)))), (9, .str (a.drop (16 * (i + 1 : Nat))))], []⟩ (by omega) ?_ rfl (fun _ _ h => h) ⟨i + 1, by omega, rfl⟩
    have hw1 : w64 ((i : Int) + 1) = ((i + 1 : Nat) : Int) := by rw [w64_of (by omega) (by omega)]; omega
    simp [St.get, lookS, -List.map_set, -List.map_map]
  · have he : a.drop (16 * i) = [] := List.drop_of_length_le (by omega)
    obtain rfl : i = n := by omega
    simp only [go_sem, ↓reduceIte, he, hsum]
end Go.Vm
end
section
namespace Go.Vm
open Go.Proofs
set_option maxRecDepth 20000
theorem gtag_spec (E : Nat → List (BitVec 8)) (n K T l s : List (BitVec 8)) (R : Nat) (hEe : ∀ c, E c = encS (n ++ beB c 4) K R (R - 1)) (hE : ∀ c, (E c).length = 16) (hn : n.length = 12) (hl : l.length ≤ 2000) (hs : s.length ≤ 2016) (hR : 2 ≤ R) (hR2 : R ≤ 20) (hK : K.length = 16 * R) (hT : T.length = 512) (hf : ∀ b : BitVec 8, T.getD (0 + b.toNat) 0 = subC b) :
    Spec0 Tryz.prog 135 [.agg [.ptr 0 0, .str n], .str l, .str s] [some ⟨false, [.ptr 1 0, .str K]⟩, some ⟨false, T.map .u8⟩] (.str (xorB (textP (sumP (encS (List.replicate 16 0#8) K R (R - 1)) l s)) (E 1))) [some ⟨false, [.ptr 1 0, .str K]⟩, some ⟨false, T.map .u8⟩] := by
  have hb := gblock_spec n K T R 1 hn (by omega) hR hR2 hK hT hf
  rw [← hEe] at hb
  have he := Encrypt_spec (List.replicate 16 0#8) K T R (by simp) hR hR2 hK hT hf
  have hel := encS_length (List.replicate 16 0#8) K R (by simp) hK (R - 1) (by omega)
  have hrep := Repeat_spec 16 (by decide)
  generalize hze : encS (List.replicate 16 0#8) K R (R - 1) = z at *
  have hsum := Sum_spec z l s hel (by omega) (by omega)
  have htl := textP_length (sumP z l s)
  have hx := Xor_spec (textP (sumP z l s)) (E 1) (by omega) (by rw [hE]; omega)
  refine spec0_of_vc (by kernel_rfl) (fn := Tryz.f135) Tryz.func135 rfl (by show 3 ≤ 23; decide) (go_start ?_)
  simp only [go_sem, ↓reduceIte, Nat.reduceEqDiff, Nat.reduceLT, Nat.reduceAdd, Tryz.ntmps135]
  refine goCallD_pure0 (hrep) ?_
  simp only [go_sem, ↓reduceIte, Nat.reduceLT]
  refine goCallD_read [0, 1] (he) (by kernel_rfl) (by simp [-List.map_map, -List.map_set]) rfl (by simp [-List.map_map, -List.map_set]) (by decide) (by simp [-List.map_map, -List.map_set]) (by simp [-List.map_map, -List.map_set]) (by simp [-List.map_map, -List.map_set]) (by simp [-List.map_map, -List.map_set]) (by simp) (by first | (simp [memRes, oldsOf, sgNew, renO, Blk.ren, -List.map_map, -List.map_set]; done) | simp [go_sem, memRes]) ?_
  simp only [go_sem, ↓reduceIte, Nat.reduceEqDiff, Nat.reduceLT, Nat.reduceAdd, Nat.reduceSub, reduceCtorEq]
  refine goCallD_pure0 (hsum) ?_
  simp only [go_sem, ↓reduceIte, Nat.reduceEqDiff, Nat.reduceLT, Nat.reduceAdd]
  refine ⟨by kernel_rfl, ?_⟩
  refine goCall_mem [0, 1] (hb) (by kernel_rfl) (by simp [-List.map_map, -List.map_set]) rfl (by simp [-List.map_map, -List.map_set]) (by decide) (by simp [-List.map_map, -List.map_set]) (by simp [-List.map_map, -List.map_set]) (by simp [-List.map_map, -List.map_set]) (by simp [-List.map_map, -List.map_set]) (by simp) ?_
  simp only [go_sem, ↓reduceIte, Nat.reduceEqDiff, Nat.reduceLT, Nat.reduceAdd, Nat.reduceSub]
  refine goCall_pure0 (hx) ?_
  simp only [go_sem, ↓reduceIte, Nat.reduceLT]
  exact Fin.ren [0, 1] (by simp) (by simp) (by rfl) (by decide) (by simp [-List.map_map, -List.map_set]) (by simp [-List.map_map, -List.map_set])
def keyB (k : List (BitVec 8)) : List (BitVec 8) := (wl k 8 60).flatten
def gE (k n : List (BitVec 8)) (c : Nat) : List (BitVec 8) := encS (n ++ beB c 4) (keyB k) 15 14
/-- A text xored; the tag of one that was; both. -/
def gS (k n t : List (BitVec 8)) : List (BitVec 8) := xorB t (stm (gE k n) ((t.length + 15) / 16))
def gT (k n l s : List (BitVec 8)) : List (BitVec 8) := xorB (textP (sumP (encS (List.replicate 16 0#8) (keyB k) 15 14) l s)) (gE k n 1)
theorem keyB_length (k : List (BitVec 8)) (hk : k.length = 32) : (keyB k).length = 240 := wl_flat k 8 (by omega) (by omega) 60
theorem gE_length (k n : List (BitVec 8)) (hk : k.length = 32) (hn : n.length = 12) (c : Nat) : (gE k n c).length = 16 := by
  unfold gE
  exact encS_length _ _ 15 (by rw [List.length_append, beB_length]; omega) (by rw [keyB_length k hk]) 14 (by omega)
theorem gS_length (k n t : List (BitVec 8)) (hk : k.length = 32) (hn : n.length = 12) : (gS k n t).length = t.length := by
  unfold gS
  rw [xorB_length, stm_length _ (gE_length k n hk hn)]; omega
theorem gT_length (k n l s : List (BitVec 8)) (hk : k.length = 32) (hn : n.length = 12) : (gT k n l s).length = 16 := by
  unfold gT
  rw [xorB_length, textP_length, gE_length k n hk hn]; rfl
theorem gSeal_bad (k n l t : List (BitVec 8)) (h : gchk k n l t 2000 ≠ 0) : Spec0 Tryz.prog 132 [.str k, .str n, .str l, .str t] [] (.tup [.str [], .i64 (gchk k n l t 2000)]) [] := by
  have hc := gcheck_spec k n l t 2000
  generalize gchk k n l t 2000 = e at *
  have he : (e = 0) = False := eq_false h
  refine spec0_of_vc (by kernel_rfl) (fn := Tryz.f132) Tryz.func132 rfl (by show 4 ≤ 34; decide) (go_start ?_)
  simp only [go_sem, ↓reduceIte, Nat.reduceEqDiff, Nat.reduceLT, Nat.reduceAdd, reduceCtorEq, Tryz.ntmps132]
  refine goCall_pure0 (hc) ?_
  simp only [go_sem, ↓reduceIte, Nat.reduceEqDiff, Nat.reduceLT, he]
  exact Fin.ren [] (by simp) (by simp) (by rfl) (by decide) (by simp [-List.map_map, -List.map_set]) (by simp [-List.map_map, -List.map_set])
theorem gSeal_spec (k n l t : List (BitVec 8)) (hk : k.length = 32) (hn : n.length = 12) (hl : l.length ≤ 2000) (ht : t.length ≤ 2000) : Spec0 Tryz.prog 132 [.str k, .str n, .str l, .str t] [] (.tup [.str (gS k n t ++ gT k n l (gS k n t)), .i64 0]) [] := by
  have hc := gcheck_spec k n l t 2000
  have hc0 : gchk k n l t 2000 = 0 := by
    unfold gchk; rw [if_neg (by omega), if_neg (by omega)]
  rw [hc0] at hc
  have hnew := New_spec k 8 (.inr rfl) (by omega)
  have hTl := mkT_length 256
  have hT := T_sub
  have hSl := gS_length k n t hk hn
  have hTgl := gT_length k n l (gS k n t) hk hn
  rw [show 4 * (8 + 7) = 60 from rfl, show (wl k 8 60).flatten = keyB k from rfl] at hnew
  have hxo := xored_spec (gE k n) (gE_length k n hk hn) n (keyB k) (mkT 256) t 15 (fun c => rfl) hn (by omega) (by omega) (by omega) (by rw [keyB_length k hk]) hTl (fun b => by rw [Nat.zero_add, hT])
  have htg := gtag_spec (gE k n) n (keyB k) (mkT 256) l (gS k n t) 15 (fun c => rfl) (gE_length k n hk hn) hn hl (by omega) (by omega) (by omega) (by rw [keyB_length k hk]) hTl (fun b => by rw [Nat.zero_add, hT])
  rw [show xorB t (stm (gE k n) ((t.length + 15) / 16)) = gS k n t from rfl] at hxo
  rw [show xorB (textP (sumP (encS (List.replicate 16 0#8) (keyB k) 15 (15 - 1)) l (gS k n t))) (gE k n 1) = gT k n l (gS k n t) from rfl] at htg
  generalize mkT 256 = T at *
  generalize keyB k = K at *
  generalize gT k n l (gS k n t) = tg at *
  generalize gS k n t = sl at *
  refine spec0_of_vc (by kernel_rfl) (fn := Tryz.f132) Tryz.func132 rfl (by show 4 ≤ 34; decide) (go_start ?_)
  simp only [go_sem, ↓reduceIte, Nat.reduceEqDiff, Nat.reduceLT, Nat.reduceAdd, reduceCtorEq, Tryz.ntmps132]
  refine goCall_pure0 (hc) ?_
  simp only [go_sem, ↓reduceIte, Nat.reduceLT, reduceCtorEq]
  refine goCall_mem [] (hnew) (by kernel_rfl) (by simp [-List.map_map, -List.map_set]) rfl (by simp [-List.map_map, -List.map_set]) (by decide) (by simp [-List.map_map, -List.map_set]) (by simp [-List.map_map, -List.map_set]) (by simp [-List.map_map, -List.map_set]) (by simp [-List.map_map, -List.map_set]) (by simp) ?_
  simp only [go_sem, ↓reduceIte, Nat.reduceEqDiff, Nat.reduceLT, Nat.reduceLeDiff, Nat.reduceAdd, Nat.reduceSub, reduceCtorEq]
  refine goCall_mem [0, 1] (hxo) (by kernel_rfl) (by simp [-List.map_map, -List.map_set]) rfl (by simp [-List.map_map, -List.map_set]) (by decide) (by simp [-List.map_map, -List.map_set]) (by simp [-List.map_map, -List.map_set]) (by simp [-List.map_map, -List.map_set]) (by simp [-List.map_map, -List.map_set]) (by simp) ?_
  simp only [go_sem, ↓reduceIte, Nat.reduceEqDiff, Nat.reduceLT, Nat.reduceAdd, Nat.reduceSub, reduceCtorEq]
  refine goCall_mem [0, 1] (htg) (by kernel_rfl) (by simp [-List.map_map, -List.map_set]) rfl (by simp [-List.map_map, -List.map_set]) (by decide) (by simp [-List.map_map, -List.map_set]) (by simp [-List.map_map, -List.map_set]) (by simp [-List.map_map, -List.map_set]) (by simp [-List.map_map, -List.map_set]) (by simp) ?_
  simp only [go_sem, ↓reduceIte, Nat.reduceEqDiff, Nat.reduceLT, Nat.reduceAdd, Nat.reduceSub]
  refine ⟨by omega, ?_⟩
  exact Fin.ren [] (by simp) (by simp) (by rfl) (by decide) (by simp [-List.map_map, -List.map_set]) (by simp [-List.map_map, -List.map_set])
theorem gOpen_bad (k n l t : List (BitVec 8)) (h : gchk k n l t 2016 ≠ 0) : Spec0 Tryz.prog 131 [.str k, .str n, .str l, .str t] [] (.tup [.str [], .i64 (gchk k n l t 2016)]) [] := by
  have hc := gcheck_spec k n l t 2016
  generalize gchk k n l t 2016 = e at *
  have he : (e = 0) = False := eq_false h
  refine spec0_of_vc (by kernel_rfl) (fn := Tryz.f131) Tryz.func131 rfl (by show 4 ≤ 50; decide) (go_start ?_)
  simp only [go_sem, ↓reduceIte, Nat.reduceEqDiff, Nat.reduceLT, Nat.reduceAdd, reduceCtorEq, Tryz.ntmps131]
  refine goCall_pure0 (hc) ?_
  simp only [go_sem, ↓reduceIte, Nat.reduceEqDiff, Nat.reduceLT, he]
  exact Fin.ren [] (by simp) (by simp) (by rfl) (by decide) (by simp [-List.map_map, -List.map_set]) (by simp [-List.map_map, -List.map_set])
theorem gOpen_short (k n l t : List (BitVec 8)) (h : gchk k n l t 2016 = 0) (ht : t.length < 16) : Spec0 Tryz.prog 131 [.str k, .str n, .str l, .str t] [] (.tup [.str [], .i64 4]) [] := by
  have hc := gcheck_spec k n l t 2016
  rw [h] at hc
  have ht' : (t.length : Int) < 16 := by omega
  refine spec0_of_vc (by kernel_rfl) (fn := Tryz.f131) Tryz.func131 rfl (by show 4 ≤ 50; decide) (go_start ?_)
  simp only [go_sem, ↓reduceIte, Nat.reduceEqDiff, Nat.reduceLT, Nat.reduceAdd, reduceCtorEq, Tryz.ntmps131]
  refine goCall_pure0 (hc) ?_
  simp only [go_sem, ↓reduceIte, Nat.reduceEqDiff, Nat.reduceLT, reduceCtorEq, ht']
  exact Fin.ren [] (by simp) (by simp) (by rfl) (by decide) (by simp [-List.map_map, -List.map_set]) (by simp [-List.map_map, -List.map_set])
theorem gOpen_spec (k n l t : List (BitVec 8)) (hk : k.length = 32) (hn : n.length = 12) (hl : l.length ≤ 2000) (ht : t.length ≤ 2016) (h16 : 16 ≤ t.length) : Spec0 Tryz.prog 131 [.str k, .str n, .str l, .str t] []
    (if gT k n l (t.take (t.length - 16)) = t.drop (t.length - 16) then .tup [.str (gS k n (t.take (t.length - 16))), .i64 0] else .tup [.str [], .i64 6]) [] := by
  have hc := gcheck_spec k n l t 2016
  have hc0 : gchk k n l t 2016 = 0 := by
    unfold gchk; rw [if_neg (by omega), if_neg (by omega)]
  rw [hc0] at hc
  have hnew := New_spec k 8 (.inr rfl) (by omega)
  have hTl := mkT_length 256
  have hT := T_sub
  have hsl : (t.take (t.length - 16)).length = t.length - 16 := by rw [List.length_take]; omega
  generalize hs : t.take (t.length - 16) = s at *
  have hTgl := gT_length k n l s hk hn
  rw [show 4 * (8 + 7) = 60 from rfl, show (wl k 8 60).flatten = keyB k from rfl] at hnew
  have hxo := xored_spec (gE k n) (gE_length k n hk hn) n (keyB k) (mkT 256) s 15 (fun c => rfl) hn (by omega) (by omega) (by omega) (by rw [keyB_length k hk]) hTl (fun b => by rw [Nat.zero_add, hT])
  have htg := gtag_spec (gE k n) n (keyB k) (mkT 256) l s 15 (fun c => rfl) (gE_length k n hk hn) hn hl (by omega) (by omega) (by omega) (by rw [keyB_length k hk]) hTl (fun b => by rw [Nat.zero_add, hT])
  rw [show xorB s (stm (gE k n) ((s.length + 15) / 16)) = gS k n s from rfl] at hxo
  rw [show xorB (textP (sumP (encS (List.replicate 16 0#8) (keyB k) 15 (15 - 1)) l s)) (gE k n 1) = gT k n l s from rfl] at htg
  generalize mkT 256 = T at *
  generalize keyB k = K at *
  generalize gT k n l s = tg at *
  generalize gS k n s = sl at *
  have h16' : ¬ (t.length : Int) < 16 := by omega
  have hsub : (t.length : Int) - 16 = ((t.length - 16 : Nat) : Int) := by omega
  have hw : w64 ((t.length - 16 : Nat) : Int) = ((t.length - 16 : Nat) : Int) := w64_of (by omega) (by omega)
  by_cases he : tg = t.drop (t.length - 16)
  · rw [if_pos he]
    have he' := eq_true he
    refine spec0_of_vc (by kernel_rfl) (fn := Tryz.f131) Tryz.func131 rfl (by show 4 ≤ 50; decide) (go_start ?_)
    simp only [go_sem, ↓reduceIte, Nat.reduceEqDiff, Nat.reduceLT, Nat.reduceAdd, reduceCtorEq, Tryz.ntmps131]
    refine goCall_pure0 (hc) ?_
    simp only [go_sem, ↓reduceIte, Nat.reduceEqDiff, Nat.reduceLT, reduceCtorEq, h16']
    refine goCall_mem [] (hnew) (by kernel_rfl) (by simp [-List.map_map, -List.map_set]) rfl (by simp [-List.map_map, -List.map_set]) (by decide) (by simp [-List.map_map, -List.map_set]) (by simp [-List.map_map, -List.map_set]) (by simp [-List.map_map, -List.map_set]) (by simp [-List.map_map, -List.map_set]) (by simp) ?_
    simp only [go_sem, ↓reduceIte, Nat.reduceEqDiff, Nat.reduceLT, Nat.reduceLeDiff, Nat.reduceAdd, Nat.reduceSub, Int.reduceToNat, reduceCtorEq, hsub, hw, hs]
    refine ⟨by omega, by omega, by kernel_rfl, ?_⟩
    refine goCall_mem [0, 1] (htg) (by kernel_rfl) (by simp [-List.map_map, -List.map_set]) rfl (by simp [-List.map_map, -List.map_set]) (by decide) (by simp [-List.map_map, -List.map_set]) (by simp [-List.map_map, -List.map_set]) (by simp [-List.map_map, -List.map_set]) (by simp [-List.map_map, -List.map_set]) (by simp) ?_
    simp only [go_sem, ↓reduceIte, Nat.reduceEqDiff, Nat.reduceLT, Nat.reduceAdd, Nat.reduceSub, he']
    refine goCall_mem [0, 1] (hxo) (by kernel_rfl) (by simp [-List.map_map, -List.map_set]) rfl (by simp [-List.map_map, -List.map_set]) (by decide) (by simp [-List.map_map, -List.map_set]) (by simp [-List.map_map, -List.map_set]) (by simp [-List.map_map, -List.map_set]) (by simp [-List.map_map, -List.map_set]) (by simp) ?_
    simp only [go_sem, ↓reduceIte, Nat.reduceLT, Nat.reduceAdd, Nat.reduceSub]
    exact Fin.ren [] (by simp) (by simp) (by rfl) (by decide) (by simp [-List.map_map, -List.map_set]) (by simp [-List.map_map, -List.map_set])
  · rw [if_neg he]
    have he' := eq_false he
    refine spec0_of_vc (by kernel_rfl) (fn := Tryz.f131) Tryz.func131 rfl (by show 4 ≤ 50; decide) (go_start ?_)
    simp only [go_sem, ↓reduceIte, Nat.reduceEqDiff, Nat.reduceLT, Nat.reduceAdd, reduceCtorEq, Tryz.ntmps131]
    refine goCall_pure0 (hc) ?_
    simp only [go_sem, ↓reduceIte, Nat.reduceEqDiff, Nat.reduceLT, reduceCtorEq, h16']
    refine goCall_mem [] (hnew) (by kernel_rfl) (by simp [-List.map_map, -List.map_set]) rfl (by simp [-List.map_map, -List.map_set]) (by decide) (by simp [-List.map_map, -List.map_set]) (by simp [-List.map_map, -List.map_set]) (by simp [-List.map_map, -List.map_set]) (by simp [-List.map_map, -List.map_set]) (by simp) ?_
    simp only [go_sem, ↓reduceIte, Nat.reduceEqDiff, Nat.reduceLT, Nat.reduceLeDiff, Nat.reduceAdd, Nat.reduceSub, Int.reduceToNat, reduceCtorEq, hsub, hw, hs]
    refine ⟨by omega, by omega, by kernel_rfl, ?_⟩
    refine goCall_mem [0, 1] (htg) (by kernel_rfl) (by simp [-List.map_map, -List.map_set]) rfl (by simp [-List.map_map, -List.map_set]) (by decide) (by simp [-List.map_map, -List.map_set]) (by simp [-List.map_map, -List.map_set]) (by simp [-List.map_map, -List.map_set]) (by simp [-List.map_map, -List.map_set]) (by simp) ?_
    simp only [go_sem, ↓reduceIte, Nat.reduceEqDiff, Nat.reduceLT, Nat.reduceAdd, Nat.reduceSub, he']
    exact Fin.ren [] (by simp) (by simp) (by rfl) (by decide) (by simp [-List.map_map, -List.map_set]) (by simp [-List.map_map, -List.map_set])
end Go.Vm
end
section
namespace Go.Vm
open Go.Proofs
set_option maxRecDepth 20000
theorem rboxed_spec (k n l t : List (BitVec 8)) (m : Int) : PureFn Tryz.prog 35 [.str k, .str n, .str l, .str t, .i64 m] (.i64 (gchk k n l t m)) := by
  by_cases h1 : k.length = 32
  · have h1' : (k.length : Int) = 32 := by omega
    by_cases h2 : n.length = 12
    · have h2' : (n.length : Int) = 12 := by omega
      by_cases h3 : 2000 < l.length
      · have h3' : (2000 : Int) < (l.length : Int) := by omega
        have e : gchk k n l t m = 2 := by simp [gchk, h1, h2, h3]
        rw [e]
        refine pure_of_vc (by kernel_rfl) (fn := Tryz.f35) (by kernel_rfl) Tryz.func35 rfl (by show 5 ≤ 28; decide) (by simp [lows, V.low]) (by simp [V.low]) (go_start ?_)
        simp only [go_sem, ↓reduceIte, Nat.reduceEqDiff, Nat.reduceLT, Nat.reduceAdd, reduceCtorEq, Tryz.ntmps35, Tryz.results35, h1', h2', h3']
      · have h3' : ¬ (2000 : Int) < (l.length : Int) := by omega
        by_cases h4 : m < (t.length : Int)
        · have e : gchk k n l t m = 2 := by simp [gchk, h1, h2, h3, h4]
          rw [e]
          refine pure_of_vc (by kernel_rfl) (fn := Tryz.f35) (by kernel_rfl) Tryz.func35 rfl (by show 5 ≤ 28; decide) (by simp [lows, V.low]) (by simp [V.low]) (go_start ?_)
          simp only [go_sem, ↓reduceIte, Nat.reduceEqDiff, Nat.reduceLT, Nat.reduceAdd, reduceCtorEq, Tryz.ntmps35, Tryz.results35, h1', h2', h3', h4]
        · have e : gchk k n l t m = 0 := by simp [gchk, h1, h2, h3, h4]
          rw [e]
          refine pure_of_vc (by kernel_rfl) (fn := Tryz.f35) (by kernel_rfl) Tryz.func35 rfl (by show 5 ≤ 28; decide) (by simp [lows, V.low]) (by simp [V.low]) (go_start ?_)
          simp only [go_sem, ↓reduceIte, Nat.reduceEqDiff, Nat.reduceLT, Nat.reduceAdd, reduceCtorEq, Tryz.ntmps35, Tryz.results35, h1', h2', h3', h4]
    · have h2' : ¬ (n.length : Int) = 12 := by omega
      have e : gchk k n l t m = 1 := by simp [gchk, h1, h2]
      rw [e]
      refine pure_of_vc (by kernel_rfl) (fn := Tryz.f35) (by kernel_rfl) Tryz.func35 rfl (by show 5 ≤ 28; decide) (by simp [lows, V.low]) (by simp [V.low]) (go_start ?_)
      simp only [go_sem, ↓reduceIte, Nat.reduceEqDiff, Nat.reduceLT, Nat.reduceAdd, reduceCtorEq, Tryz.ntmps35, Tryz.results35, h1', h2']
  · have h1' : ¬ (k.length : Int) = 32 := by omega
    have e : gchk k n l t m = 1 := by simp [gchk, h1]
    rw [e]
    refine pure_of_vc (by kernel_rfl) (fn := Tryz.f35) (by kernel_rfl) Tryz.func35 rfl (by show 5 ≤ 28; decide) (by simp [lows, V.low]) (by simp [V.low]) (go_start ?_)
    simp only [go_sem, ↓reduceIte, Nat.reduceEqDiff, Nat.reduceLT, Nat.reduceAdd, reduceCtorEq, Tryz.ntmps35, Tryz.results35, h1']
/-- What is known of the reference's cipher. -/
def REnc (S : List (BitVec 8)) (us : List (List (BitVec 8))) (K : List (BitVec 8)) : Prop := ∀ t : List (BitVec 8), t.length = 16 → Spec0 Tryz.prog 50 [.agg [.slice 0 0 256 1, .slice 1 0 60 1], .str t] [some ⟨false, S.map .u8⟩, some ⟨false, us.map .str⟩] (.str (encS t K 15 14)) [some ⟨false, S.map .u8⟩, some ⟨false, us.map .str⟩]
theorem rgblock_spec (n S : List (BitVec 8)) (us : List (List (BitVec 8))) (K : List (BitVec 8)) (he : REnc S us K) (hn : n.length = 12) (c : Nat) (hc : c ≤ 100000) :
    Spec0 Tryz.prog 49 [.i64 c, .ptr 3 0, .ptr 0 0] [some ⟨false, [.str n]⟩, some ⟨false, S.map .u8⟩, some ⟨false, us.map .str⟩, some ⟨false, [.slice 1 0 256 1, .slice 2 0 60 1]⟩] (.str (encS (n ++ beB c 4) K 15 14)) [some ⟨false, [.str n]⟩, some ⟨false, S.map .u8⟩, some ⟨false, us.map .str⟩, some ⟨false, [.slice 1 0 256 1, .slice 2 0 60 1]⟩] := by
  have hto : (BitVec.ofNat 64 c).toNat = c := by rw [BitVec.toNat_ofNat]; omega
  have hh := high_spec 4 (by decide) (BitVec.ofNat 64 c)
  rw [hto] at hh
  have hb := beB_length c 4
  have hoi : BitVec.ofInt 64 (c : Int) = BitVec.ofNat 64 c := by simp
  have he := he (n ++ beB c 4) (by rw [List.length_append]; omega)
  refine spec0_of_vc (by kernel_rfl) (fn := Tryz.f49) Tryz.func49 rfl (by show 3 ≤ 12; decide) (go_start ?_)
  simp only [go_sem, ↓reduceIte, Nat.reduceEqDiff, Nat.reduceLT, Nat.reduceAdd, reduceCtorEq, Tryz.ntmps49, hoi]
  refine goCallD_pure0 (hh) ?_
  simp only [go_sem, ↓reduceIte, Nat.reduceEqDiff, Nat.reduceLT, Nat.reduceLeDiff, Nat.reduceAdd, hb]
  refine ⟨by omega, ?_⟩
  refine goCallD_read [1, 2] (he) (by kernel_rfl) (by simp [-List.map_map, -List.map_set]) rfl (by simp [-List.map_map, -List.map_set]) (by decide) (by simp [-List.map_map, -List.map_set]) (by simp [-List.map_map, -List.map_set]) (by simp [-List.map_map, -List.map_set]) (by simp [-List.map_map, -List.map_set]) (by simp) (by first | (simp [memRes, oldsOf, sgNew, renO, Blk.ren, -List.map_map, -List.map_set]; done) | simp [go_sem, memRes]) ?_
  simp only [go_sem, ↓reduceIte, Nat.reduceLT, Nat.reduceAdd, Nat.reduceSub]
  refine ⟨by kernel_rfl, ?_⟩
  exact Fin.ren [0, 1, 2, 3] (by simp) (by simp) (by rfl) (by decide) (by simp [-List.map_map, -List.map_set]) (by simp [-List.map_map, -List.map_set])
theorem rgxored_spec (E : Nat → List (BitVec 8)) (hE : ∀ c, (E c).length = 16) (n S s : List (BitVec 8)) (us : List (List (BitVec 8))) (hs : s.length ≤ 2016)
    (hb : ∀ c : Nat, c ≤ 100000 → Spec0 Tryz.prog 49 [.i64 c, .ptr 3 0, .ptr 0 0] [some ⟨false, [.str n]⟩, some ⟨false, S.map .u8⟩, some ⟨false, us.map .str⟩, some ⟨false, [.slice 1 0 256 1, .slice 2 0 60 1]⟩] (.str (E c)) [some ⟨false, [.str n]⟩, some ⟨false, S.map .u8⟩, some ⟨false, us.map .str⟩, some ⟨false, [.slice 1 0 256 1, .slice 2 0 60 1]⟩]) :
    Spec0 Tryz.prog 51 [.str s, .ptr 4 0] [some ⟨false, [.str n]⟩, some ⟨false, S.map .u8⟩, some ⟨false, us.map .str⟩, some ⟨false, [.slice 1 0 256 1, .slice 2 0 60 1]⟩, some ⟨false, [.fn 49 [] [.ptr 3 0, .ptr 0 0]]⟩] (.str (xorB s (stm E ((s.length + 15) / 16)))) [some ⟨false, [.str n]⟩, some ⟨false, S.map .u8⟩, some ⟨false, us.map .str⟩, some ⟨false, [.slice 1 0 256 1, .slice 2 0 60 1]⟩, some ⟨false, [.fn 49 [] [.ptr 3 0, .ptr 0 0]]⟩] := by
  generalize hrd : (s.length + 15) / 16 = rd
  have hsl := stm_length E hE rd
  have hx := RXor_spec s (stm E rd) (by omega) (by omega)
  refine spec0_of_vc (by kernel_rfl) (fn := Tryz.f51) Tryz.func51 rfl (by show 2 ≤ 21; decide) (go_start ?_)
  simp only [go_sem, Nat.reduceLT, Nat.reduceAdd, Tryz.ntmps51]
  refine go_loop (fun ji st => ∃ i : Nat, i + ji = rd ∧ st = ⟨[(0, .str s), (1, .ptr 4 0), (4, .str (stm E i)), (5, .i64 (2 + i : Nat))], [some ⟨false, [.str n]⟩, some ⟨false, S.map .u8⟩, some ⟨false, us.map .str⟩, some ⟨false, [.slice 1 0 256 1, .slice 2 0 60 1]⟩, some ⟨false, [.fn 49 [] [.ptr 3 0, .ptr 0 0]]⟩]⟩) ?_ ?_
  · exact start_mk (rd) ⟨[(0, .str s), (1, .ptr 4 0), (4, .str (stm E (0 : Nat))), (5, .i64 (2 + (0 : Nat) : Nat))], [some ⟨false, [.str n]⟩, some ⟨false, S.map .u8⟩, some ⟨false, us.map .str⟩, some ⟨false, [.slice 1 0 256 1, .slice 2 0 60 1]⟩, some ⟨false, [.fn 49 [] [.ptr 3 0, .ptr 0 0]]⟩]⟩ (by simp [St.get, lookS, -List.map_set, -List.map_map, stm]) rfl (fun _ _ h => h) ⟨0, by omega, rfl⟩
  rintro ji st ⟨i, hi, rfl⟩ _
  simp only [go_sem, ↓reduceIte, Nat.reduceEqDiff, Nat.reduceLT, reduceCtorEq]
  have hil := stm_length E hE i
  by_cases h0 : i < rd
  · have h0' : ((stm E i).length : Int) < (s.length : Int) := by omega
    have hEl := hE (2 + i)
    have hw : ((2 + i : Nat) : Int) + 1 = ((2 + (i + 1) : Nat) : Int) := by omega
    have hw2 : w64 ((2 + (i + 1) : Nat) : Int) = ((2 + (i + 1) : Nat) : Int) := w64_of (by omega) (by omega)
    simp only [go_sem, ↓reduceIte, h0']
    refine goCall_mem [0, 1, 2, 3] (hb (2 + i) (by omega)) (by kernel_rfl) (by simp [-List.map_map, -List.map_set]) rfl (by simp [-List.map_map, -List.map_set]) (by decide) (by simp [-List.map_map, -List.map_set]) (by simp [-List.map_map, -List.map_set]) (by simp [-List.map_map, -List.map_set]) (by simp [-List.map_map, -List.map_set]) (by simp) ?_
    simp only [go_sem, ↓reduceIte, Nat.reduceEqDiff, Nat.reduceLT, Nat.reduceAdd, Nat.reduceSub, reduceCtorEq, hw, hw2]
    refine ⟨by omega, ?_⟩
    have hw1 : w64 ((i : Int) + 1) = ((i + 1 : Nat) : Int) := by rw [w64_of (by omega) (by omega)]; omega
    refine again_ren (ji - 1) ⟨[(0, .str s), (1, .ptr 4 0), (4, .str (stm E (i + 1 : Nat))), (5, .i64 (2 + (i + 1 : Nat) : Nat))], [some ⟨false, [.str n]⟩, some ⟨false, S.map .u8⟩, some ⟨false, us.map .str⟩, some ⟨false, [.slice 1 0 256 1, .slice 2 0 60 1]⟩, some ⟨false, [.fn 49 [] [.ptr 3 0, .ptr 0 0]]⟩]⟩ [0, 1, 2, 3, 4] (by omega) rfl (by simp) rfl (by decide) (by simp [slotsOk, St.get, lookS, -List.map_map, -List.map_set, stm]) (by simp [-List.map_map, -List.map_set]) ⟨i + 1, by omega, rfl⟩
  · have hie : i = rd := by omega
    subst hie
    have h0' : ¬ ((stm E i).length : Int) < (s.length : Int) := by omega
    simp only [go_sem, ↓reduceIte, h0']
    refine goCall_pure0 (hx) ?_
    simp only [go_sem, ↓reduceIte, Nat.reduceLT]
    exact Fin.ren [0, 1, 2, 3, 4] (by simp) (by simp) (by rfl) (by decide) (by simp [-List.map_map, -List.map_set]) (by simp [-List.map_map, -List.map_set])
theorem rgtag_spec (E : Nat → List (BitVec 8)) (hE : ∀ c, (E c).length = 16) (n l S s : List (BitVec 8)) (us : List (List (BitVec 8))) (K : List (BitVec 8)) (hK : K.length = 240) (he : REnc S us K) (hl : l.length ≤ 2000) (hs : s.length ≤ 2016)
    (hb : ∀ c : Nat, c ≤ 100000 → Spec0 Tryz.prog 49 [.i64 c, .ptr 3 0, .ptr 0 0] [some ⟨false, [.str n]⟩, some ⟨false, S.map .u8⟩, some ⟨false, us.map .str⟩, some ⟨false, [.slice 1 0 256 1, .slice 2 0 60 1]⟩] (.str (E c)) [some ⟨false, [.str n]⟩, some ⟨false, S.map .u8⟩, some ⟨false, us.map .str⟩, some ⟨false, [.slice 1 0 256 1, .slice 2 0 60 1]⟩]) :
    Spec0 Tryz.prog 52 [.str s, .ptr 3 0, .ptr 5 0, .ptr 4 0] [some ⟨false, [.str n]⟩, some ⟨false, S.map .u8⟩, some ⟨false, us.map .str⟩, some ⟨false, [.slice 1 0 256 1, .slice 2 0 60 1]⟩, some ⟨false, [.fn 49 [] [.ptr 3 0, .ptr 0 0]]⟩, some ⟨false, [.str l]⟩] (.str (xorB (textP (sumP (encS (List.replicate 16 0#8) K 15 14) l s)) (E 1))) [some ⟨false, [.str n]⟩, some ⟨false, S.map .u8⟩, some ⟨false, us.map .str⟩, some ⟨false, [.slice 1 0 256 1, .slice 2 0 60 1]⟩, some ⟨false, [.fn 49 [] [.ptr 3 0, .ptr 0 0]]⟩, some ⟨false, [.str l]⟩] := by
  have he := he (List.replicate 16 0#8) (by simp)
  have hel := encS_length (List.replicate 16 0#8) K 15 (by simp) hK 14 (by omega)
  have hz := zeros_spec 16 (by decide)
  have hb := hb 1 (by omega)
  generalize hze : encS (List.replicate 16 0#8) K 15 14 = z at *
  have hsum := RSum_spec z l s hel (by omega) (by omega)
  have htl := textP_length (sumP z l s)
  have hx := RXor_spec (textP (sumP z l s)) (E 1) (by rw [htl, hE]; omega) (by omega)
  refine spec0_of_vc (by kernel_rfl) (fn := Tryz.f52) Tryz.func52 rfl (by show 4 ≤ 21; decide) (go_start ?_)
  simp only [go_sem, ↓reduceIte, Nat.reduceEqDiff, Nat.reduceLT, Nat.reduceAdd, Tryz.ntmps52]
  refine goCallD_pure0 (hz) ?_
  simp only [go_sem, ↓reduceIte, Nat.reduceLT]
  refine goCallD_read [1, 2] (he) (by kernel_rfl) (by simp [-List.map_map, -List.map_set]) rfl (by simp [-List.map_map, -List.map_set]) (by decide) (by simp [-List.map_map, -List.map_set]) (by simp [-List.map_map, -List.map_set]) (by simp [-List.map_map, -List.map_set]) (by simp [-List.map_map, -List.map_set]) (by simp) (by first | (simp [memRes, oldsOf, sgNew, renO, Blk.ren, -List.map_map, -List.map_set]; done) | simp [go_sem, memRes]) ?_
  simp only [go_sem, ↓reduceIte, Nat.reduceEqDiff, Nat.reduceLT, Nat.reduceAdd, Nat.reduceSub, reduceCtorEq]
  refine goCallD_pure0 (hsum) ?_
  simp only [go_sem, ↓reduceIte, Nat.reduceEqDiff, Nat.reduceLT, Nat.reduceAdd, reduceCtorEq]
  refine ⟨by kernel_rfl, ?_⟩
  refine goCall_mem [0, 1, 2, 3] (hb) (by kernel_rfl) (by simp [-List.map_map, -List.map_set]) rfl (by simp [-List.map_map, -List.map_set]) (by decide) (by simp [-List.map_map, -List.map_set]) (by simp [-List.map_map, -List.map_set]) (by simp [-List.map_map, -List.map_set]) (by simp [-List.map_map, -List.map_set]) (by simp) ?_
  simp only [go_sem, ↓reduceIte, Nat.reduceEqDiff, Nat.reduceLT, Nat.reduceAdd, Nat.reduceSub]
  refine goCall_pure0 (hx) ?_
  simp only [go_sem, ↓reduceIte, Nat.reduceLT]
  exact Fin.ren [0, 1, 2, 3, 4, 5] (by simp) (by simp) (by rfl) (by decide) (by simp [-List.map_map, -List.map_set]) (by simp [-List.map_map, -List.map_set])
theorem rgcm_spec (k n l : List (BitVec 8)) (hk : k.length = 32) : ∃ S us, REnc S us (keyB k) ∧ Spec0 Tryz.prog 41 [.str k, .str n, .str l] [] (.tup [.fn 51 [] [.ptr 4 0], .fn 52 [] [.ptr 3 0, .ptr 5 0, .ptr 4 0]]) [some ⟨false, [.str n]⟩, some ⟨false, S.map .u8⟩, some ⟨false, us.map .str⟩, some ⟨false, [.slice 1 0 256 1, .slice 2 0 60 1]⟩, some ⟨false, [.fn 49 [] [.ptr 3 0, .ptr 0 0]]⟩, some ⟨false, [.str l]⟩] := by
  have hwl := wl_length k 8 60
  have h4 := wl_four k 8 (by omega) (by omega) 60
  have hK := keyB_length k hk
  have hof := AesOf_spec k 8 (.inr rfl) (by omega)
  have hsu := fun s h => subbed_spec s 60 (wl k 8 60) h
  rw [show 4 * (8 + 7) = 60 from rfl] at hof
  have hke : keyB k = (wl k 8 60).flatten := rfl
  generalize outS 255 = S at *
  generalize wl k 8 60 = us at *
  refine ⟨S, us, fun t ht => REncrypt_spec t S us 15 60 rfl ht (by omega) (by omega) hwl h4 (keyB k) hke (by rw [hK]) hsu, ?_⟩
  refine spec0_of_vc (by kernel_rfl) (fn := Tryz.f41) Tryz.func41 rfl (by show 3 ≤ 21; decide) (go_start ?_)
  simp only [go_sem, ↓reduceIte, Nat.reduceEqDiff, Nat.reduceLT, Nat.reduceAdd, reduceCtorEq, Tryz.ntmps41]
  refine goCall_mem [] (hof) (by kernel_rfl) (by simp [-List.map_map, -List.map_set]) rfl (by simp [-List.map_map, -List.map_set]) (by decide) (by simp [-List.map_map, -List.map_set]) (by simp [-List.map_map, -List.map_set]) (by simp [-List.map_map, -List.map_set]) (by simp [-List.map_map, -List.map_set]) (by simp) ?_
  simp only [go_sem, ↓reduceIte, Nat.reduceEqDiff, Nat.reduceLT, Nat.reduceAdd, Nat.reduceSub]
  exact Fin.ren [0, 2, 3, 4, 5, 1] (by simp) (by simp) (by rfl) (by decide) (by simp [-List.map_map, -List.map_set]) (by simp [-List.map_map, -List.map_set])
end Go.Vm
end
section
namespace Go.Vm
open Go.Proofs
set_option maxRecDepth 20000
theorem rgSeal_bad (k n l t : List (BitVec 8)) (h : gchk k n l t 2000 ≠ 0) : Spec0 Tryz.prog 31 [.str k, .str n, .str l, .str t] [] (.tup [.str [], .i64 (gchk k n l t 2000)]) [] := by
  have hc := rboxed_spec k n l t 2000
  generalize gchk k n l t 2000 = e at *
  have he : (e = 0) = False := eq_false h
  refine spec0_of_vc (by kernel_rfl) (fn := Tryz.f31) Tryz.func31 rfl (by show 4 ≤ 37; decide) (go_start ?_)
  simp only [go_sem, ↓reduceIte, Nat.reduceEqDiff, Nat.reduceLT, Nat.reduceAdd, reduceCtorEq, Tryz.ntmps31]
  refine goCall_pure0 (hc) ?_
  simp only [go_sem, ↓reduceIte, Nat.reduceEqDiff, Nat.reduceLT, he]
  exact Fin.ren [] (by simp) (by simp) (by rfl) (by decide) (by simp [-List.map_map, -List.map_set]) (by simp [-List.map_map, -List.map_set])
theorem rgSeal_spec (k n l t : List (BitVec 8)) (hk : k.length = 32) (hn : n.length = 12) (hl : l.length ≤ 2000) (ht : t.length ≤ 2000) : Spec0 Tryz.prog 31 [.str k, .str n, .str l, .str t] [] (.tup [.str (gS k n t ++ gT k n l (gS k n t)), .i64 0]) [] := by
  have hc := rboxed_spec k n l t 2000
  have hc0 : gchk k n l t 2000 = 0 := by
    unfold gchk; rw [if_neg (by omega), if_neg (by omega)]
  rw [hc0] at hc
  obtain ⟨S, us, he, hg⟩ := rgcm_spec k n l hk
  have hSl := gS_length k n t hk hn
  have hTgl := gT_length k n l (gS k n t) hk hn
  have hK := keyB_length k hk
  have hb : ∀ c : Nat, c ≤ 100000 → _ := fun c hc => rgblock_spec n S us (keyB k) he hn c hc
  have hx := rgxored_spec (gE k n) (gE_length k n hk hn) n S t us (by omega) hb
  have htg := rgtag_spec (gE k n) (gE_length k n hk hn) n l S (gS k n t) us (keyB k) hK he hl (by omega) hb
  rw [show xorB t (stm (gE k n) ((t.length + 15) / 16)) = gS k n t from rfl] at hx
  rw [show xorB (textP (sumP (encS (List.replicate 16 0#8) (keyB k) 15 14) l (gS k n t))) (gE k n 1) = gT k n l (gS k n t) from rfl] at htg
  generalize gT k n l (gS k n t) = tg at *
  generalize gS k n t = sl at *
  refine spec0_of_vc (by kernel_rfl) (fn := Tryz.f31) Tryz.func31 rfl (by show 4 ≤ 37; decide) (go_start ?_)
  simp only [go_sem, ↓reduceIte, Nat.reduceEqDiff, Nat.reduceLT, Nat.reduceAdd, reduceCtorEq, Tryz.ntmps31]
  refine goCall_pure0 (hc) ?_
  simp only [go_sem, ↓reduceIte, Nat.reduceEqDiff, Nat.reduceLT, reduceCtorEq]
  refine goCall_mem [] (hg) (by kernel_rfl) (by simp [-List.map_map, -List.map_set]) rfl (by simp [-List.map_map, -List.map_set]) (by decide) (by simp [-List.map_map, -List.map_set]) (by simp [-List.map_map, -List.map_set]) (by simp [-List.map_map, -List.map_set]) (by simp [-List.map_map, -List.map_set]) (by simp) ?_
  simp only [go_sem, ↓reduceIte, Nat.reduceEqDiff, Nat.reduceLT, Nat.reduceAdd, Nat.reduceSub, reduceCtorEq]
  refine goCall_mem [0, 1, 2, 3, 4] (hx) (by kernel_rfl) (by simp [-List.map_map, -List.map_set]) rfl (by simp [-List.map_map, -List.map_set]) (by decide) (by simp [-List.map_map, -List.map_set]) (by simp [-List.map_map, -List.map_set]) (by simp [-List.map_map, -List.map_set]) (by simp [-List.map_map, -List.map_set]) (by simp) ?_
  simp only [go_sem, ↓reduceIte, Nat.reduceEqDiff, Nat.reduceLT, Nat.reduceAdd, Nat.reduceSub]
  refine goCall_mem [0, 1, 2, 3, 4, 5] (htg) (by kernel_rfl) (by simp [-List.map_map, -List.map_set]) rfl (by simp [-List.map_map, -List.map_set]) (by decide) (by simp [-List.map_map, -List.map_set]) (by simp [-List.map_map, -List.map_set]) (by simp [-List.map_map, -List.map_set]) (by simp [-List.map_map, -List.map_set]) (by simp) ?_
  simp only [go_sem, ↓reduceIte, Nat.reduceEqDiff, Nat.reduceLT, Nat.reduceAdd, Nat.reduceSub]
  refine ⟨by omega, ?_⟩
  exact Fin.ren [] (by simp) (by simp) (by rfl) (by decide) (by simp [-List.map_map, -List.map_set]) (by simp [-List.map_map, -List.map_set])
/-- Xored twice a text is itself. -/
theorem gS_twice (k n t : List (BitVec 8)) (hk : k.length = 32) (hn : n.length = 12) : gS k n (gS k n t) = t := by
  have hl := gS_length k n t hk hn
  have hsl := stm_length _ (gE_length k n hk hn) ((t.length + 15) / 16)
  have e : gS k n (gS k n t) = xorB (gS k n t) (stm (gE k n) ((t.length + 15) / 16)) := by
    rw [← hl]; rfl
  rw [e]
  show xorB (xorB t (stm (gE k n) ((t.length + 15) / 16))) (stm (gE k n) ((t.length + 15) / 16)) = t
  generalize stm (gE k n) ((t.length + 15) / 16) = z at *
  unfold xorB
  apply List.ext_getElem?
  intro i
  by_cases hi : i < t.length
  · have hz : i < z.length := by omega
    rw [List.getElem?_zipWith, List.getElem?_zipWith, List.getElem?_eq_getElem hi, List.getElem?_eq_getElem hz]
    show some ((t[i] ^^^ z[i]) ^^^ z[i]) = some t[i]
    rw [BitVec.xor_assoc, BitVec.xor_self, BitVec.xor_zero]
  · rw [List.getElem?_zipWith, List.getElem?_zipWith, List.getElem?_eq_none (l := t) (by omega)]
theorem rgOpen_bad (k n l t : List (BitVec 8)) (h : gchk k n l t 2016 ≠ 0) : Spec0 Tryz.prog 32 [.str k, .str n, .str l, .str t] [] (.tup [.str [], .i64 (gchk k n l t 2016)]) [] := by
  have hc := rboxed_spec k n l t 2016
  generalize gchk k n l t 2016 = e at *
  have he : (e = 0) = False := eq_false h
  refine spec0_of_vc (by kernel_rfl) (fn := Tryz.f32) Tryz.func32 rfl (by show 4 ≤ 53; decide) (go_start ?_)
  simp only [go_sem, ↓reduceIte, Nat.reduceEqDiff, Nat.reduceLT, Nat.reduceAdd, reduceCtorEq, Tryz.ntmps32]
  refine goCall_pure0 (hc) ?_
  simp only [go_sem, ↓reduceIte, Nat.reduceEqDiff, Nat.reduceLT, he]
  exact Fin.ren [] (by simp) (by simp) (by rfl) (by decide) (by simp [-List.map_map, -List.map_set]) (by simp [-List.map_map, -List.map_set])
theorem rgOpen_short (k n l t : List (BitVec 8)) (h : gchk k n l t 2016 = 0) (ht : t.length < 16) : Spec0 Tryz.prog 32 [.str k, .str n, .str l, .str t] [] (.tup [.str [], .i64 4]) [] := by
  have hc := rboxed_spec k n l t 2016
  rw [h] at hc
  have ht' : (t.length : Int) < 16 := by omega
  refine spec0_of_vc (by kernel_rfl) (fn := Tryz.f32) Tryz.func32 rfl (by show 4 ≤ 53; decide) (go_start ?_)
  simp only [go_sem, ↓reduceIte, Nat.reduceEqDiff, Nat.reduceLT, Nat.reduceAdd, reduceCtorEq, Tryz.ntmps32]
  refine goCall_pure0 (hc) ?_
  simp only [go_sem, ↓reduceIte, Nat.reduceEqDiff, Nat.reduceLT, reduceCtorEq, ht']
  exact Fin.ren [] (by simp) (by simp) (by rfl) (by decide) (by simp [-List.map_map, -List.map_set]) (by simp [-List.map_map, -List.map_set])
theorem app_eq_iff (t a : List (BitVec 8)) : t.take (t.length - 16) ++ a = t ↔ a = t.drop (t.length - 16) := by
  constructor
  · intro h
    have h2 : t.take (t.length - 16) ++ a = t.take (t.length - 16) ++ t.drop (t.length - 16) := by rw [h, List.take_append_drop]
    exact List.append_cancel_left h2
  · intro h
    rw [h, List.take_append_drop]
theorem rgOpen_spec (k n l t : List (BitVec 8)) (hk : k.length = 32) (hn : n.length = 12) (hl : l.length ≤ 2000) (ht : t.length ≤ 2016) (h16 : 16 ≤ t.length) : Spec0 Tryz.prog 32 [.str k, .str n, .str l, .str t] []
    (if gT k n l (t.take (t.length - 16)) = t.drop (t.length - 16) then .tup [.str (gS k n (t.take (t.length - 16))), .i64 0] else .tup [.str [], .i64 6]) [] := by
  have hc := rboxed_spec k n l t 2016
  have hc0 : gchk k n l t 2016 = 0 := by
    unfold gchk; rw [if_neg (by omega), if_neg (by omega)]
  rw [hc0] at hc
  obtain ⟨S, us, he, hg⟩ := rgcm_spec k n l hk
  have hsl : (t.take (t.length - 16)).length = t.length - 16 := by rw [List.length_take]; omega
  have hiff := app_eq_iff t (gT k n l (t.take (t.length - 16)))
  generalize hs : t.take (t.length - 16) = s at *
  have hSl := gS_length k n s hk hn
  have hb : ∀ c : Nat, c ≤ 100000 → _ := fun c hc => rgblock_spec n S us (keyB k) he hn c hc
  have hx := rgxored_spec (gE k n) (gE_length k n hk hn) n S s us (by omega) hb
  rw [show xorB s (stm (gE k n) ((s.length + 15) / 16)) = gS k n s from rfl] at hx
  have hse := rgSeal_spec k n l (gS k n s) hk hn hl (by omega)
  rw [gS_twice k n s hk hn] at hse
  generalize gT k n l s = tg at *
  generalize gS k n s = sl at *
  have h16' : ¬ (t.length : Int) < 16 := by omega
  have hsub : (t.length : Int) - 16 = ((t.length - 16 : Nat) : Int) := by omega
  have hw : w64 ((t.length - 16 : Nat) : Int) = ((t.length - 16 : Nat) : Int) := w64_of (by omega) (by omega)
  by_cases hq : tg = t.drop (t.length - 16)
  · rw [if_pos hq]
    have he' := eq_true (hiff.2 hq)
    refine spec0_of_vc (by kernel_rfl) (fn := Tryz.f32) Tryz.func32 rfl (by show 4 ≤ 53; decide) (go_start ?_)
    simp only [go_sem, ↓reduceIte, Nat.reduceEqDiff, Nat.reduceLT, Nat.reduceAdd, reduceCtorEq, Tryz.ntmps32]
    refine goCall_pure0 (hc) ?_
    simp only [go_sem, ↓reduceIte, Nat.reduceEqDiff, Nat.reduceLT, reduceCtorEq, h16']
    refine goCall_mem [] (hg) (by kernel_rfl) (by simp [-List.map_map, -List.map_set]) rfl (by simp [-List.map_map, -List.map_set]) (by decide) (by simp [-List.map_map, -List.map_set]) (by simp [-List.map_map, -List.map_set]) (by simp [-List.map_map, -List.map_set]) (by simp [-List.map_map, -List.map_set]) (by simp) ?_
    simp only [go_sem, ↓reduceIte, Nat.reduceEqDiff, Nat.reduceLT, Nat.reduceAdd, Nat.reduceSub, Int.reduceToNat, reduceCtorEq, hsub, hw, hs]
    refine ⟨by omega, ?_⟩
    refine goCall_mem [0, 1, 2, 3, 4] (hx) (by kernel_rfl) (by simp [-List.map_map, -List.map_set]) rfl (by simp [-List.map_map, -List.map_set]) (by decide) (by simp [-List.map_map, -List.map_set]) (by simp [-List.map_map, -List.map_set]) (by simp [-List.map_map, -List.map_set]) (by simp [-List.map_map, -List.map_set]) (by simp) ?_
    simp only [go_sem, ↓reduceIte, Nat.reduceEqDiff, Nat.reduceLT, Nat.reduceAdd, Nat.reduceSub, reduceCtorEq]
    refine goCall_mem [] (hse) (by kernel_rfl) (by simp [-List.map_map, -List.map_set]) rfl (by simp [-List.map_map, -List.map_set]) (by decide) (by simp [-List.map_map, -List.map_set]) (by simp [-List.map_map, -List.map_set]) (by simp [-List.map_map, -List.map_set]) (by simp [-List.map_map, -List.map_set]) (by simp) ?_
    simp only [go_sem, ↓reduceIte, Nat.reduceEqDiff, Nat.reduceLT, Nat.reduceAdd, Nat.reduceSub, reduceCtorEq, he']
    exact Fin.ren [] (by simp) (by simp) (by rfl) (by decide) (by simp [-List.map_map, -List.map_set]) (by simp [-List.map_map, -List.map_set])
  · rw [if_neg hq]
    have he' := eq_false (fun h => hq (hiff.1 h))
    refine spec0_of_vc (by kernel_rfl) (fn := Tryz.f32) Tryz.func32 rfl (by show 4 ≤ 53; decide) (go_start ?_)
    simp only [go_sem, ↓reduceIte, Nat.reduceEqDiff, Nat.reduceLT, Nat.reduceAdd, reduceCtorEq, Tryz.ntmps32]
    refine goCall_pure0 (hc) ?_
    simp only [go_sem, ↓reduceIte, Nat.reduceEqDiff, Nat.reduceLT, reduceCtorEq, h16']
    refine goCall_mem [] (hg) (by kernel_rfl) (by simp [-List.map_map, -List.map_set]) rfl (by simp [-List.map_map, -List.map_set]) (by decide) (by simp [-List.map_map, -List.map_set]) (by simp [-List.map_map, -List.map_set]) (by simp [-List.map_map, -List.map_set]) (by simp [-List.map_map, -List.map_set]) (by simp) ?_
    simp only [go_sem, ↓reduceIte, Nat.reduceEqDiff, Nat.reduceLT, Nat.reduceAdd, Nat.reduceSub, Int.reduceToNat, reduceCtorEq, hsub, hw, hs]
    refine ⟨by omega, ?_⟩
    refine goCall_mem [0, 1, 2, 3, 4] (hx) (by kernel_rfl) (by simp [-List.map_map, -List.map_set]) rfl (by simp [-List.map_map, -List.map_set]) (by decide) (by simp [-List.map_map, -List.map_set]) (by simp [-List.map_map, -List.map_set]) (by simp [-List.map_map, -List.map_set]) (by simp [-List.map_map, -List.map_set]) (by simp) ?_
    simp only [go_sem, ↓reduceIte, Nat.reduceEqDiff, Nat.reduceLT, Nat.reduceAdd, Nat.reduceSub, reduceCtorEq]
    refine goCall_mem [] (hse) (by kernel_rfl) (by simp [-List.map_map, -List.map_set]) rfl (by simp [-List.map_map, -List.map_set]) (by decide) (by simp [-List.map_map, -List.map_set]) (by simp [-List.map_map, -List.map_set]) (by simp [-List.map_map, -List.map_set]) (by simp [-List.map_map, -List.map_set]) (by simp) ?_
    simp only [go_sem, ↓reduceIte, Nat.reduceEqDiff, Nat.reduceLT, Nat.reduceAdd, Nat.reduceSub, reduceCtorEq, he']
    exact Fin.ren [] (by simp) (by simp) (by rfl) (by decide) (by simp [-List.map_map, -List.map_set]) (by simp [-List.map_map, -List.map_set])
theorem gchk_zero (k n l t : List (BitVec 8)) (m : Nat) (h : gchk k n l t m = 0) : k.length = 32 ∧ n.length = 12 ∧ l.length ≤ 2000 ∧ t.length ≤ m := by
  unfold gchk at h
  split at h
  · cases h
  · split at h
    · cases h
    · omega
end Go.Vm
end
