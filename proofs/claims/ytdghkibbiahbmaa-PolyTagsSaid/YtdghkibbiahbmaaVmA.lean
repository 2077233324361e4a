/- Virtual values and virtual memory, and how the machine's values and memory read as them. -/
import Derived.Deep.AppendSrc
import Derived.Deep.MidRow
import Derived.Orders
set_option linter.unusedVariables false
set_option linter.unusedSimpArgs false
set_option linter.unusedSectionVars false
namespace Go.Vm

abbrev Byte := BitVec 8

/-- A value as the proofs see it. 'junk': nothing is said of it. -/
inductive V where
  | junk
  | bool (b : Bool)
  | u8 (x : BitVec 8)
  | u32 (x : BitVec 32)
  | u64 (x : BitVec 64)
  | i64 (n : Int)
  | i32 (n : Int)
  | str (s : List Byte)
  | ptr (b o : Nat)
  | nilPtr
  | slice (b o len esz : Nat)
  | nilSlice
  | fn (f : FuncId) (first caps : List V)
  | nilFn
  | agg (cs : List V)
  | tup (vs : List V)
  | iface (t : TypeId) (v : V)
  | nilIface
  deriving Inhabited

/-- The bytes of a string. -/
def bytesOf (b : ByteArray) : List Byte := b.data.toList.map UInt8.toBitVec
/-- The string of bytes. -/
def strOf (l : List Byte) : ByteArray := ⟨(l.map UInt8.ofBitVec).toArray⟩
theorem bytesOf_strOf (l : List Byte) : bytesOf (strOf l) = l := by
  unfold bytesOf strOf
  simp only [List.map_map]
  conv => rhs; rw [← List.map_id l]
  exact List.map_congr_left fun _ _ => rfl
theorem strOf_bytesOf (b : ByteArray) : strOf (bytesOf b) = b := by
  unfold bytesOf strOf
  simp only [List.map_map]
  have : (b.data.toList.map (UInt8.ofBitVec ∘ UInt8.toBitVec)) = b.data.toList := by
    conv => rhs; rw [← List.map_id b.data.toList]
    exact List.map_congr_left fun _ _ => rfl
  rw [this]
theorem bytesOf_length (b : ByteArray) : (bytesOf b).length = b.size := by
  unfold bytesOf; rw [List.length_map, Array.length_toList]; rfl
theorem bytesOf_inj {a b : ByteArray} (h : bytesOf a = bytesOf b) : a = b := by
  rw [← strOf_bytesOf a, h, strOf_bytesOf]

/-- One block of virtual memory: read alone, or written too. -/
structure Blk where
  ro : Bool
  cs : List V
  deriving Inhabited

mutual
/-- The machine's value r reads as v: block b of the virtual memory lies in the machine's block (ρ b).1 from place (ρ b).2 on. -/
def VR (ρ : Nat → Nat × Nat) (dom : Nat → Prop) (w : World) : V → Value → Prop
  | .junk, _ => True
  | .bool b, r => r = .bool b
  | .u8 x, r => r = .int .u8 x.toNat
  | .u32 x, r => r = .int .u32 x.toNat
  | .u64 x, r => r = .int .u64 x.toNat
  | .i64 n, r => r = .int .i64 n
  | .i32 n, r => r = .int .i32 n
  | .str s, r => ∃ b, r = .string b ∧ bytesOf b = s
  | .ptr b o, r => dom b ∧ r = .pointer (some ⟨(ρ b).1, (ρ b).2 + o, none⟩)
  | .nilPtr, r => r = .pointer none
  | .slice b o len esz, r => dom b ∧ ∃ a cap, r = .slice (some a) len cap ∧ len ≤ cap ∧
      (cap ≠ 0 → a = ⟨(ρ b).1, (ρ b).2 + o, none⟩ ∧ w.there (ρ b).1 ((ρ b).2 + o) (cap * esz))
  | .nilSlice, r => r = .slice none 0 0
  | .fn f fs cs, r => ∃ f' c', r = .func (.func f) f' c' ∧ VRs ρ dom w fs f'.toList ∧ VRs ρ dom w cs c'.toList
  | .nilFn, r => r = .nilFunc
  | .agg cs, r => ∃ a, r = .agg a ∧ VRs ρ dom w cs a.toList
  | .tup cs, r => ∃ a, r = .tuple a ∧ VRs ρ dom w cs a.toList
  | .iface t v, r => ∃ r', r = .iface t r' ∧ VR ρ dom w v r'
  | .nilIface, r => r = .nilIface
def VRs (ρ : Nat → Nat × Nat) (dom : Nat → Prop) (w : World) : List V → List Value → Prop
  | [], l => l = []
  | v :: vs, l => ∃ r rs, l = r :: rs ∧ VR ρ dom w v r ∧ VRs ρ dom w vs rs
end

/-- What was there is there. -/
def Lasts (w w' : World) : Prop := ∀ b o, (w.cell? ⟨b, o, none⟩).isSome = true → (w'.cell? ⟨b, o, none⟩).isSome = true ∧ (w.frozen? ⟨b, o, none⟩ = false → w'.frozen? ⟨b, o, none⟩ = false)
theorem Lasts.refl (w : World) : Lasts w w := fun _ _ h => ⟨h, id⟩
theorem Lasts.trans {a b c : World} (h : Lasts a b) (k : Lasts b c) : Lasts a c := fun p o hp =>
  ⟨(k p o (h p o hp).1).1, fun hf => (k p o (h p o hp).1).2 ((h p o hp).2 hf)⟩
theorem Lasts.there {w w' : World} (h : Lasts w w') {b o n : Nat} (k : w.there b o n) : w'.there b o n := fun j hj =>
  ⟨(h b (o + j) (k j hj).1).1, (h b (o + j) (k j hj).1).2 (k j hj).2⟩

section mono
variable {ρ ρ' : Nat → Nat × Nat} {dom dom' : Nat → Prop} {w w' : World}
mutual
theorem VR.mono (hρ : ∀ b, dom b → ρ' b = ρ b) (hd : ∀ b, dom b → dom' b) (hl : Lasts w w') : ∀ {v : V} {r : Value}, VR ρ dom w v r → VR ρ' dom' w' v r
  | .junk, _, _ => by unfold VR; trivial
  | .bool _, _, h => by unfold VR at *; exact h
  | .u8 _, _, h => by unfold VR at *; exact h
  | .u32 _, _, h => by unfold VR at *; exact h
  | .u64 _, _, h => by unfold VR at *; exact h
  | .i64 _, _, h => by unfold VR at *; exact h
  | .i32 _, _, h => by unfold VR at *; exact h
  | .str _, _, h => by unfold VR at *; exact h
  | .ptr b _, _, h => by unfold VR at *; exact ⟨hd b h.1, by rw [hρ b h.1]; exact h.2⟩
  | .nilPtr, _, h => by unfold VR at *; exact h
  | .slice b _ _ _, _, h => by
    unfold VR at *
    obtain ⟨hb, a, cap, h1, h2, h3⟩ := h
    refine ⟨hd b hb, a, cap, h1, h2, fun hc => ?_⟩
    rw [hρ b hb]
    exact ⟨(h3 hc).1, hl.there (h3 hc).2⟩
  | .nilSlice, _, h => by unfold VR at *; exact h
  | .fn _ fs cs, _, h => by
    unfold VR at *
    obtain ⟨f', c', h1, h2, h3⟩ := h
    exact ⟨f', c', h1, VRs.mono hρ hd hl h2, VRs.mono hρ hd hl h3⟩
  | .nilFn, _, h => by unfold VR at *; exact h
  | .agg cs, _, h => by
    unfold VR at *
    obtain ⟨a, h1, h2⟩ := h
    exact ⟨a, h1, VRs.mono hρ hd hl h2⟩
  | .tup cs, _, h => by
    unfold VR at *
    obtain ⟨a, h1, h2⟩ := h
    exact ⟨a, h1, VRs.mono hρ hd hl h2⟩
  | .iface _ v, _, h => by
    unfold VR at *
    obtain ⟨r', h1, h2⟩ := h
    exact ⟨r', h1, VR.mono hρ hd hl h2⟩
  | .nilIface, _, h => by unfold VR at *; exact h
theorem VRs.mono (hρ : ∀ b, dom b → ρ' b = ρ b) (hd : ∀ b, dom b → dom' b) (hl : Lasts w w') : ∀ {vs : List V} {rs : List Value}, VRs ρ dom w vs rs → VRs ρ' dom' w' vs rs
  | [], _, h => by unfold VRs at *; exact h
  | v :: vs, _, h => by
    unfold VRs at *
    obtain ⟨r, rs, h1, h2, h3⟩ := h
    exact ⟨r, rs, h1, VR.mono hρ hd hl h2, VRs.mono hρ hd hl h3⟩
end
end mono

section lists
variable {ρ : Nat → Nat × Nat} {dom : Nat → Prop} {w : World}
theorem VRs.length : ∀ {vs : List V} {rs : List Value}, VRs ρ dom w vs rs → rs.length = vs.length
  | [], _, h => by unfold VRs at h; simp [h]
  | v :: vs, _, h => by
    unfold VRs at h
    obtain ⟨r, rs, rfl, _, h3⟩ := h
    simp [VRs.length h3]
theorem VRs.get : ∀ {vs : List V} {rs : List Value}, VRs ρ dom w vs rs → ∀ {i : Nat} {v : V}, vs[i]? = some v → ∃ r, rs[i]? = some r ∧ VR ρ dom w v r
  | [], _, _, i, v, hi => by simp at hi
  | x :: vs, _, h, 0, v, hi => by
    unfold VRs at h
    obtain ⟨r, rs, rfl, h2, _⟩ := h
    simp at hi; subst hi
    exact ⟨r, rfl, h2⟩
  | x :: vs, _, h, i + 1, v, hi => by
    unfold VRs at h
    obtain ⟨r, rs, rfl, _, h3⟩ := h
    simpa using VRs.get h3 (by simpa using hi)
theorem VRs.of_get : ∀ {vs : List V} {rs : List Value}, rs.length = vs.length → (∀ (i : Nat) v r, vs[i]? = some v → rs[i]? = some r → VR ρ dom w v r) → VRs ρ dom w vs rs
  | [], rs, hl, _ => by unfold VRs; simpa using hl
  | v :: vs, [], hl, _ => by simp at hl
  | v :: vs, r :: rs, hl, h => by
    unfold VRs
    exact ⟨r, rs, rfl, h 0 v r rfl rfl, VRs.of_get (by simpa using hl) fun i v r hv hr => h (i + 1) v r (by simpa using hv) (by simpa using hr)⟩
theorem VRs.append {vs us : List V} {rs qs : List Value} (h : VRs ρ dom w vs rs) (k : VRs ρ dom w us qs) : VRs ρ dom w (vs ++ us) (rs ++ qs) := by
  induction vs generalizing rs with
  | nil => unfold VRs at h; subst h; simpa using k
  | cons v vs ih =>
    unfold VRs at h
    obtain ⟨r, rs', rfl, h2, h3⟩ := h
    simp only [List.cons_append]
    unfold VRs
    exact ⟨r, _, rfl, h2, ih h3⟩
theorem VRs.nil : VRs ρ dom w [] [] := by unfold VRs; rfl
theorem VRs.cons {v : V} {r : Value} {vs : List V} {rs : List Value} (h : VR ρ dom w v r) (k : VRs ρ dom w vs rs) : VRs ρ dom w (v :: vs) (r :: rs) := by
  unfold VRs; exact ⟨r, rs, rfl, h, k⟩
theorem VRs.take {vs : List V} {rs : List Value} (h : VRs ρ dom w vs rs) (n : Nat) : VRs ρ dom w (vs.take n) (rs.take n) := by
  refine VRs.of_get (by simp [h.length]) fun i v r hv hr => ?_
  rw [List.getElem?_take] at hv hr
  split at hv
  · rename_i hlt
    rw [if_pos hlt] at hr
    obtain ⟨r', h1, h2⟩ := h.get hv
    rw [hr] at h1; injection h1 with h1; subst h1; exact h2
  · cases hv
theorem VRs.drop {vs : List V} {rs : List Value} (h : VRs ρ dom w vs rs) (n : Nat) : VRs ρ dom w (vs.drop n) (rs.drop n) := by
  refine VRs.of_get (by simp [h.length]) fun i v r hv hr => ?_
  rw [List.getElem?_drop] at hv hr
  obtain ⟨r', h1, h2⟩ := h.get hv
  rw [hr] at h1; injection h1 with h1; subst h1; exact h2
theorem VRs.set {vs : List V} {rs : List Value} (h : VRs ρ dom w vs rs) (n : Nat) {v : V} {r : Value} (hv : VR ρ dom w v r) : VRs ρ dom w (vs.set n v) (rs.set n r) := by
  refine VRs.of_get (by simp [h.length]) fun i v' r' hv' hr' => ?_
  rw [List.getElem?_set] at hv' hr'
  split at hv'
  · rename_i he
    subst he
    rw [if_pos rfl] at hr'
    split at hv'
    · rename_i hlt
      rw [if_pos (by rw [h.length]; exact hlt)] at hr'
      injection hv' with hv'; injection hr' with hr'
      subst hv'; subst hr'; exact hv
    · cases hv'
  · rename_i he
    rw [if_neg he] at hr'
    obtain ⟨r'', h1, h2⟩ := h.get hv'
    rw [hr'] at h1; injection h1 with h1; subst h1; exact h2
end lists

/-- The machine's memory reads as the virtual one. -/
structure MemRel (ρ : Nat → Nat × Nat) (dom : Nat → Prop) (get : Nat → Option Blk) (w : World) : Prop where
  has : ∀ b B, get b = some B → dom b
  lt : ∀ b B, get b = some B → (ρ b).1 < w.heap.size
  inj : ∀ b b' B B', get b = some B → get b' = some B' → B.ro = false → b ≠ b' → (ρ b).1 ≠ (ρ b').1
  cell : ∀ b B, get b = some B → ∀ (i : Nat) v, B.cs[i]? = some v → ∃ r, w.cell? ⟨(ρ b).1, (ρ b).2 + i, none⟩ = some r ∧ VR ρ dom w v r
  free : ∀ b B, get b = some B → B.ro = false → ∀ i, i < B.cs.length → w.frozen? ⟨(ρ b).1, (ρ b).2 + i, none⟩ = false

/-- What has become of the world: nothing has turned but the blocks that may be written, and new ones. -/
structure Frame (ρ : Nat → Nat × Nat) (get : Nat → Option Blk) (w : World) (ρ' : Nat → Nat × Nat) (get' : Nat → Option Blk) (w' : World) : Prop where
  os : w'.os = w.os
  output : w'.output = w.output
  tape : w'.tape = w.tape
  size : w.heap.size ≤ w'.heap.size
  keep : ∀ r, r < w.heap.size → (∀ b B, get b = some B → B.ro = false → (ρ b).1 ≠ r) → w'.heap[r]? = w.heap[r]?
  lasts : Lasts w w'
  own : ∀ b B, get' b = some B → B.ro = false → (∃ b0 B0, get b0 = some B0 ∧ B0.ro = false ∧ (ρ b0).1 = (ρ' b).1) ∨ w.heap.size ≤ (ρ' b).1

theorem Frame.refl (ρ : Nat → Nat × Nat) (get : Nat → Option Blk) (w : World) : Frame ρ get w ρ get w :=
  ⟨rfl, rfl, rfl, Nat.le_refl _, fun _ _ _ => rfl, Lasts.refl w, fun b B h hr => .inl ⟨b, B, h, hr, rfl⟩⟩
theorem Frame.trans {ρ ρ' ρ'' : Nat → Nat × Nat} {get get' get'' : Nat → Option Blk} {w w' w'' : World} (h : Frame ρ get w ρ' get' w') (k : Frame ρ' get' w' ρ'' get'' w'') : Frame ρ get w ρ'' get'' w'' := by
  refine ⟨k.os.trans h.os, k.output.trans h.output, k.tape.trans h.tape, Nat.le_trans h.size k.size, fun r hr hb => ?_, h.lasts.trans k.lasts, fun b B hB hro => ?_⟩
  · rw [k.keep r (Nat.lt_of_lt_of_le hr h.size) (fun b B hB hro e => ?_), h.keep r hr hb]
    rcases h.own b B hB hro with ⟨b0, B0, h1, h2, h3⟩ | h1
    · exact hb b0 B0 h1 h2 (h3.trans e)
    · omega
  · rcases k.own b B hB hro with ⟨b0, B0, h1, h2, h3⟩ | h1
    · rcases h.own b0 B0 h1 h2 with ⟨b1, B1, h4, h5, h6⟩ | h4
      · exact .inl ⟨b1, B1, h4, h5, h6.trans h3⟩
      · exact .inr (by omega)
    · exact .inr (Nat.le_trans h.size h1)
/-- Fewer blocks may be spoken of at the end. -/
theorem Frame.less {ρ ρ' ρ'' : Nat → Nat × Nat} {get get' get'' : Nat → Option Blk} {w w' : World} (h : Frame ρ get w ρ' get' w')
    (hl : ∀ b B, get'' b = some B → B.ro = false → ∃ b0 B0, get' b0 = some B0 ∧ B0.ro = false ∧ (ρ' b0).1 = (ρ'' b).1) : Frame ρ get w ρ'' get'' w' :=
  ⟨h.os, h.output, h.tape, h.size, h.keep, h.lasts, fun b B hB hro => by
    obtain ⟨b0, B0, h1, h2, h3⟩ := hl b B hB hro
    rw [← h3]
    exact h.own b0 B0 h1 h2⟩
end Go.Vm
