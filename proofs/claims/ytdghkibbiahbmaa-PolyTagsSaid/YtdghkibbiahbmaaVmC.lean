/- How memory turns under one operation: a new block, a store. -/
import Derived.Test.YtdghkibbiahbmaaVmB
set_option linter.unusedVariables false
set_option linter.unusedSimpArgs false
set_option linter.unusedSectionVars false
namespace Go.Vm

def domWith (dom : Nat → Prop) (nid k : Nat) : Nat → Prop := fun b => dom b ∨ (nid ≤ b ∧ b < nid + k)
def lookOld : List (Nat × Option Blk) → Nat → Option Blk → Option Blk
  | [], _, d => d
  | (i, x) :: r, b, d => if b = i then x else lookOld r b d
def upd (get : Nat → Option Blk) (old : List (Nat × Option Blk)) (nid : Nat) (news : List (Option Blk)) : Nat → Option Blk :=
  fun b => if nid ≤ b ∧ b < nid + news.length then (news[b - nid]?).join else lookOld old b (get b)
theorem upd_nil (get : Nat → Option Blk) (nid : Nat) : upd get [] nid [] = get := by
  funext b
  unfold upd
  rw [if_neg (by simp)]
  rfl
theorem upd_one (get : Nat → Option Blk) (i : Nat) (x : Option Blk) (nid : Nat) : upd get [(i, x)] nid [] = fun b => if b = i then x else get b := by
  funext b
  unfold upd
  rw [if_neg (by simp)]
  rfl
theorem upd_new (get : Nat → Option Blk) (nid : Nat) (x : Option Blk) : upd get [] nid [x] = fun b => if b = nid then x else get b := by
  funext b
  unfold upd
  by_cases h : b = nid
  · subst h; simp
  · rw [if_neg (by simp; omega), if_neg h]; rfl

theorem MemRel.monoDom {ρ : Nat → Nat × Nat} {dom dom' : Nat → Prop} {get : Nat → Option Blk} {w : World} (h : MemRel ρ dom get w) (hd : ∀ b, dom b → dom' b) : MemRel ρ dom' get w :=
  ⟨fun b B hB => hd b (h.has b B hB), h.lt, h.inj, fun b B hB i v hv => by
    obtain ⟨r, h1, h2⟩ := h.cell b B hB i v hv
    exact ⟨r, h1, h2.mono (fun _ _ => rfl) hd (Lasts.refl w)⟩, h.free⟩
/-- Fewer blocks are spoken of. -/
theorem MemRel.less {ρ : Nat → Nat × Nat} {dom : Nat → Prop} {get get' : Nat → Option Blk} {w : World} (h : MemRel ρ dom get w) (hl : ∀ b B, get' b = some B → get b = some B) : MemRel ρ dom get' w :=
  ⟨fun b B hB => h.has b B (hl b B hB), fun b B hB => h.lt b B (hl b B hB), fun b b' B B' hB hB' hr hne => h.inj b b' B B' (hl b B hB) (hl b' B' hB') hr hne,
    fun b B hB => h.cell b B (hl b B hB), fun b B hB => h.free b B (hl b B hB)⟩

/-- The same memory, whatever was drawn. -/
structure Alike (w w1 : World) : Prop where
  heap : w1.heap = w.heap
  os : w1.os = w.os
  output : w1.output = w.output
  tape : w1.tape = w.tape
theorem Alike.refl (w : World) : Alike w w := ⟨rfl, rfl, rfl, rfl⟩
theorem Alike.drew (w : World) : Alike w w.drew := ⟨rfl, rfl, rfl, rfl⟩
theorem Alike.cell {w w1 : World} (h : Alike w w1) (a : Addr) : w1.cell? a = w.cell? a := by unfold World.cell?; rw [h.heap]
theorem Alike.frozen {w w1 : World} (h : Alike w w1) (a : Addr) : w1.frozen? a = w.frozen? a := by unfold World.frozen?; rw [h.heap]
theorem Alike.lasts {w w1 : World} (h : Alike w w1) : Lasts w w1 := fun b o hc => ⟨by rw [h.cell]; exact hc, fun hf => by rw [h.frozen]; exact hf⟩

theorem MemRel.alike {ρ : Nat → Nat × Nat} {dom : Nat → Prop} {get : Nat → Option Blk} {w w1 : World} (h : MemRel ρ dom get w) (k : Alike w w1) : MemRel ρ dom get w1 :=
  ⟨h.has, fun b B hB => by rw [k.heap]; exact h.lt b B hB, h.inj, fun b B hB i v hv => by
    obtain ⟨r, h1, h2⟩ := h.cell b B hB i v hv
    exact ⟨r, by rw [k.cell]; exact h1, h2.mono (fun _ _ => rfl) (fun _ hd => hd) k.lasts⟩, fun b B hB hr i hi => by rw [k.frozen]; exact h.free b B hB hr i hi⟩
theorem Frame.alike {ρ : Nat → Nat × Nat} {get : Nat → Option Blk} {w w1 : World} (k : Alike w w1) : Frame ρ get w ρ get w1 :=
  ⟨k.os, k.output, k.tape, by rw [k.heap]; exact Nat.le_refl _, fun r _ _ => by rw [k.heap], k.lasts, fun b B h hr => .inl ⟨b, B, h, hr, rfl⟩⟩

/-! ### A new block -/
theorem lasts_alloc (w : World) (o : Obj) : Lasts w (w.alloc o) := fun b p hc => by
  obtain ⟨u, hu⟩ := Option.isSome_iff_exists.1 hc
  have hlt := World.block_lt_of_cell? _ _ hu
  have hne : (⟨b, p, none⟩ : Addr).block ≠ w.heap.size := Nat.ne_of_lt hlt
  exact ⟨by rw [World.cell?_alloc_old _ _ _ hne]; exact hc, fun hf => by rw [World.frozen?_alloc_old _ _ _ hne]; exact hf⟩

def extend (ρ : Nat → Nat × Nat) (nid : Nat) (x : Nat × Nat) : Nat → Nat × Nat := fun b => if b = nid then x else ρ b
theorem extend_old {ρ : Nat → Nat × Nat} {dom : Nat → Prop} {nid : Nat} {x : Nat × Nat} (h : ¬ dom nid) : ∀ b, dom b → extend ρ nid x b = ρ b := fun b hb => by
  unfold extend
  rw [if_neg (fun e => by subst e; exact h hb)]
theorem extend_new {ρ : Nat → Nat × Nat} {nid : Nat} {x : Nat × Nat} : extend ρ nid x nid = x := by unfold extend; rw [if_pos rfl]

theorem cell?_alloc_fz (w : World) (c : Array Value) (e : TypeId) (fz : Nat × Nat) (i : Nat) : (w.alloc (.cells c e fz)).cell? ⟨w.heap.size, i, none⟩ = c[i]? := by
  unfold World.alloc World.cell?
  simp [- World.alloc_eq]
theorem frozen?_alloc_fz (w : World) (c : Array Value) (e : TypeId) (fz : Nat × Nat) (i : Nat) : (w.alloc (.cells c e fz)).frozen? ⟨w.heap.size, i, none⟩ = (decide (fz.1 ≤ i) && decide (i < fz.2)) := by
  unfold World.alloc World.frozen?
  simp [- World.alloc_eq]

theorem new_block {ρ : Nat → Nat × Nat} {dom : Nat → Prop} {get : Nat → Option Blk} {w : World} (h : MemRel ρ dom get w) {nid : Nat} (hn : ¬ dom nid)
    (c : Array Value) (e : TypeId) (fz : Nat × Nat) (cs : List V) (hcs : ∀ (i : Nat) v, cs[i]? = some v → ∃ r, c[i]? = some r ∧ VR ρ dom w v r) (hfz : ∀ i, i < cs.length → ¬ (fz.1 ≤ i ∧ i < fz.2)) :
    MemRel (extend ρ nid (w.heap.size, 0)) (domWith dom nid 1) (upd get [] nid [some ⟨false, cs⟩]) (w.alloc (.cells c e fz)) ∧
    Frame ρ get w (extend ρ nid (w.heap.size, 0)) (upd get [] nid [some ⟨false, cs⟩]) (w.alloc (.cells c e fz)) := by
  have hold := extend_old (ρ := ρ) (x := (w.heap.size, 0)) hn
  have hl := lasts_alloc w (.cells c e fz)
  have hdm : ∀ b, dom b → domWith dom nid 1 b := fun b hb => .inl hb
  rw [upd_new]
  have hget : ∀ b B, b ≠ nid → (fun b => if b = nid then some (⟨false, cs⟩ : Blk) else get b) b = some B → get b = some B := fun b B hb hB => by simpa [hb] using hB
  have hrho : ∀ b B, b ≠ nid → get b = some B → extend ρ nid (w.heap.size, 0) b = ρ b := fun b B hb hB => hold b (h.has b B hB)
  refine ⟨⟨fun b B hB => ?_, fun b B hB => ?_, fun b b' B B' hB hB' hr hne => ?_, fun b B hB i v hv => ?_, fun b B hB hr i hi => ?_⟩,
    ⟨rfl, rfl, rfl, by simp, fun r hr _ => ?_, hl, fun b B hB hr => ?_⟩⟩
  · by_cases hb : b = nid
    · exact .inr ⟨by omega, by omega⟩
    · exact .inl (h.has b B (hget b B hb hB))
  · by_cases hb : b = nid
    · subst hb; rw [extend_new]; simp
    · have := h.lt b B (hget b B hb hB)
      rw [hrho b B hb (hget b B hb hB)]
      simp; omega
  · by_cases hb : b = nid
    · subst hb
      have hb' : b' ≠ b := fun e => hne e.symm
      have := h.lt b' B' (hget b' B' hb' hB')
      rw [extend_new, hrho b' B' hb' (hget b' B' hb' hB')]
      simp only; omega
    · have h1 := hget b B hb hB
      rw [hrho b B hb h1]
      by_cases hb' : b' = nid
      · subst hb'
        rw [extend_new]
        have := h.lt b B h1
        simp only; omega
      · have h2 := hget b' B' hb' hB'
        rw [hrho b' B' hb' h2]
        exact h.inj b b' B B' h1 h2 hr hne
  · by_cases hb : b = nid
    · subst hb
      have hB' : (⟨false, cs⟩ : Blk) = B := by simpa using hB
      subst hB'
      obtain ⟨r, h1, h2⟩ := hcs i v hv
      refine ⟨r, ?_, h2.mono hold hdm hl⟩
      rw [extend_new]
      simpa using (cell?_alloc_fz w c e fz i).trans h1
    · have h1 := hget b B hb hB
      obtain ⟨r, h2, h3⟩ := h.cell b B h1 i v hv
      refine ⟨r, ?_, h3.mono hold hdm hl⟩
      rw [hrho b B hb h1, World.cell?_alloc_lt _ _ _ (h.lt b B h1)]
      exact h2
  · by_cases hb : b = nid
    · subst hb
      have hB' : (⟨false, cs⟩ : Blk) = B := by simpa using hB
      subst hB'
      rw [extend_new]
      have := frozen?_alloc_fz w c e fz i
      have hf := hfz i hi
      simp only [Nat.zero_add]
      rw [this]
      simpa using hf
    · have h1 := hget b B hb hB
      rw [hrho b B hb h1, World.frozen?_alloc_old _ _ _ (Nat.ne_of_lt (h.lt b B h1))]
      exact h.free b B h1 hr i hi
  · show (w.heap.push _)[r]? = _
    rw [Array.getElem?_push, if_neg (by omega)]
  · by_cases hb : b = nid
    · subst hb; right; rw [extend_new]; exact Nat.le_refl _
    · have h1 := hget b B hb hB
      exact .inl ⟨b, B, h1, hr, (by rw [hrho b B hb h1])⟩

/-! ### A store -/
theorem heap_setCells_other (b : Nat) : ∀ (vs : List Value) (o : Nat) (w : World) (r : Nat), r ≠ b → (w.setCells b o vs).heap[r]? = w.heap[r]?
  | [], _, _, _, _ => rfl
  | v :: vs, o, w, r, h => by
    rw [World.setCells, heap_setCells_other b vs _ _ r h]
    exact heap_setCell_other _ _ _ _ h
theorem size_setCells (b : Nat) : ∀ (vs : List Value) (o : Nat) (w : World), (w.setCells b o vs).heap.size = w.heap.size
  | [], _, _ => rfl
  | v :: vs, o, w => by rw [World.setCells, size_setCells b vs]; simp
theorem os_setCells (b : Nat) : ∀ (vs : List Value) (o : Nat) (w : World), (w.setCells b o vs).os = w.os ∧ (w.setCells b o vs).output = w.output ∧ (w.setCells b o vs).tape = w.tape
  | [], _, _ => ⟨rfl, rfl, rfl⟩
  | v :: vs, o, w => by rw [World.setCells]; exact os_setCells b vs _ _
theorem isSome_setCell (w : World) (a x : Addr) (v : Value) (h : (w.cell? x).isSome = true) : ((w.setCell a v).cell? x).isSome = true := by
  by_cases e : a = x
  · subst e
    obtain ⟨u, hu⟩ := Option.isSome_iff_exists.1 h
    rw [World.cell?_setCell_same _ _ _ hu]; rfl
  · rw [World.cell?_setCell_other _ _ _ _ e]; exact h
theorem isSome_setCells (b : Nat) : ∀ (vs : List Value) (o : Nat) (w : World) (x : Addr), (w.cell? x).isSome = true → ((w.setCells b o vs).cell? x).isSome = true
  | [], _, _, _, h => h
  | v :: vs, o, w, x, h => by rw [World.setCells]; exact isSome_setCells b vs _ _ x (isSome_setCell w _ x v h)
theorem lasts_setCells (b o : Nat) (vs : List Value) (w : World) : Lasts w (w.setCells b o vs) := fun p q hc =>
  ⟨isSome_setCells b vs o w _ hc, fun hf => by rw [World.frozen?_setCells]; exact hf⟩

theorem splice_get {cs : List V} {o : Nat} {xs : List V} (h : o + xs.length ≤ cs.length) (i : Nat) : (splice cs o xs)[i]? = if o ≤ i ∧ i < o + xs.length then xs[i - o]? else cs[i]? := by
  unfold splice
  split
  · rename_i x
    rw [List.getElem?_set]
    simp at h
    by_cases e : o = i
    · subst e
      rw [if_pos rfl, if_pos (by omega), if_pos (by simp)]
      simp
    · rw [if_neg e, if_neg (by simp; omega)]
  · by_cases h1 : i < o
    · rw [List.append_assoc, List.getElem?_append_left (by simp; omega), if_neg (by omega), List.getElem?_take, if_pos h1]
    · by_cases h2 : i < o + xs.length
      · rw [if_pos ⟨by omega, h2⟩, List.getElem?_append_left (by simp; omega), List.getElem?_append_right (by simp; omega)]
        congr 1
        simp; omega
      · rw [if_neg (by omega), List.getElem?_append_right (by simp; omega), List.getElem?_drop]
        congr 1
        simp; omega
theorem splice_length {cs : List V} {o : Nat} {xs : List V} (h : o + xs.length ≤ cs.length) : (splice cs o xs).length = cs.length := by
  unfold splice
  split
  · simp
  · simp; omega

theorem store_block {ρ : Nat → Nat × Nat} {dom : Nat → Prop} {get : Nat → Option Blk} {w : World} (h : MemRel ρ dom get w) {b o nid : Nat} {cs xs : List V} {rs : List Value}
    (hb : get b = some ⟨false, cs⟩) (hx : VRs ρ dom w xs rs) (hle : o + xs.length ≤ cs.length) :
    MemRel ρ (domWith dom nid 0) (upd get [(b, some ⟨false, splice cs o xs⟩)] nid []) (w.setCells (ρ b).1 ((ρ b).2 + o) rs) ∧
    Frame ρ get w ρ (upd get [(b, some ⟨false, splice cs o xs⟩)] nid []) (w.setCells (ρ b).1 ((ρ b).2 + o) rs) := by
  have hlen := hx.length
  have hl := lasts_setCells (ρ b).1 ((ρ b).2 + o) rs w
  have hdm : ∀ b, dom b → domWith dom nid 0 b := fun b hb => .inl hb
  rw [upd_one]
  have hget : ∀ b' B, b' ≠ b → (fun b' => if b' = b then some (⟨false, splice cs o xs⟩ : Blk) else get b') b' = some B → get b' = some B := fun b' B hne hB => by simpa [hne] using hB
  have hgb : ∀ B, (fun b' => if b' = b then some (⟨false, splice cs o xs⟩ : Blk) else get b') b = some B → B = ⟨false, splice cs o xs⟩ := fun B hB => by simpa using hB.symm
  have hsame : ∀ b' B, (fun b' => if b' = b then some (⟨false, splice cs o xs⟩ : Blk) else get b') b' = some B → ∃ B0, get b' = some B0 ∧ B0.ro = B.ro ∧ B0.cs.length = B.cs.length := fun b' B hB => by
    by_cases e : b' = b
    · subst e
      rw [hgb B hB]
      exact ⟨_, hb, rfl, by simp [splice_length hle]⟩
    · exact ⟨B, hget b' B e hB, rfl, rfl⟩
  refine ⟨⟨fun b' B hB => ?_, fun b' B hB => ?_, fun b1 b2 B1 B2 h1 h2 hr hne => ?_, fun b' B hB i v hv => ?_, fun b' B hB hr i hi => ?_⟩,
    ⟨(os_setCells _ _ _ _).1, (os_setCells _ _ _ _).2.1, (os_setCells _ _ _ _).2.2, by rw [size_setCells]; exact Nat.le_refl _, fun r hr hbr => ?_, hl, fun b' B hB hr => ?_⟩⟩
  · obtain ⟨B0, h1, _⟩ := hsame b' B hB
    exact .inl (h.has b' B0 h1)
  · obtain ⟨B0, h1, _⟩ := hsame b' B hB
    rw [size_setCells]; exact h.lt b' B0 h1
  · obtain ⟨B3, h3, h4, _⟩ := hsame b1 B1 h1
    obtain ⟨B5, h5, _⟩ := hsame b2 B2 h2
    exact h.inj b1 b2 B3 B5 h3 h5 (h4.trans hr) hne
  · by_cases e : b' = b
    · subst e
      rw [hgb B hB] at hv
      rw [splice_get hle] at hv
      by_cases hi : o ≤ i ∧ i < o + xs.length
      · rw [if_pos hi] at hv
        obtain ⟨r, h1, h2⟩ := hx.get hv
        refine ⟨r, ?_, h2.mono (fun _ _ => rfl) hdm hl⟩
        have hj : i - o < rs.length := by omega
        have := World.cell?_setCells_in (ρ b').1 rs ((ρ b').2 + o) w (fun j hj => by
          obtain ⟨u, hu, _⟩ := h.cell b' _ hb (o + j) (cs[o + j]'(by omega)) (by simp)
          rw [show (ρ b').2 + o + j = (ρ b').2 + (o + j) by omega, hu]; rfl) (i - o) hj
        rw [show (ρ b').2 + o + (i - o) = (ρ b').2 + i by omega] at this
        rw [this, ← h1]
        simp [hj]
      · rw [if_neg hi] at hv
        obtain ⟨r, h1, h2⟩ := h.cell b' _ hb i v hv
        refine ⟨r, ?_, h2.mono (fun _ _ => rfl) hdm hl⟩
        rw [World.cell?_setCells_out _ _ _ _ _ (fun _ _ => by simp only; omega)]
        exact h1
    · have h0 := hget b' B e hB
      obtain ⟨r, h1, h2⟩ := h.cell b' B h0 i v hv
      refine ⟨r, ?_, h2.mono (fun _ _ => rfl) hdm hl⟩
      have hne := h.inj b b' _ B hb h0 rfl (fun x => e x.symm)
      rw [World.cell?_setCells_out _ _ _ _ _ (fun x _ => absurd x.symm hne)]
      exact h1
  · obtain ⟨B0, h1, h2, h3⟩ := hsame b' B hB
    rw [World.frozen?_setCells]
    exact h.free b' B0 h1 (h2.trans hr) i (by omega)
  · refine heap_setCells_other _ _ _ _ _ (fun e => hbr b _ hb rfl e.symm)
  · obtain ⟨B0, h1, h2, _⟩ := hsame b' B hB
    exact .inl ⟨b', B0, h1, h2.trans hr, rfl⟩
end Go.Vm
