/- A state told again under other numbers of blocks, what is dropped being forgotten. -/
import Derived.Test.YtdghkibbiahbmaaVmP
set_option linter.unusedVariables false
set_option linter.unusedSimpArgs false
set_option linter.unusedSectionVars false
namespace Go.Vm
section
variable {m n : Nat} {s s' : St}
def sgOf (sg : List Nat) (b : Nat) : Nat := sg.getD b 0
theorem lows_get {N : Nat} : ∀ {l : List V} {i : Nat} {v : V}, lows N l → l[i]? = some v → v.low N
  | [], _, _, _, h => by simp at h
  | x :: l, 0, v, hb, h => by
    unfold lows at hb
    simp at h; subst h; exact hb.1
  | x :: l, i + 1, v, hb, h => by
    unfold lows at hb
    exact lows_get hb.2 (by simpa using h)
theorem getH_lt {H : List (Option Blk)} {b : Nat} {B : Blk} (h : getH H b = some B) : b < H.length := by
  unfold getH at h
  exact Nat.lt_of_not_le (fun hb => by rw [List.getElem?_eq_none hb] at h; simp at h)
theorem Weak.rename (σ : Nat → Nat) (hm : m ≤ s'.H.length) (hσm : ∀ b, b < m → σ b = b) (ht : ∀ p ∈ s'.t, p.2.ren σ = s.get p.1 ∧ p.2.low s'.H.length)
    (hH : ∀ b B, getH s'.H b = some B → getH s.H (σ b) = some ⟨B.ro, rens σ B.cs⟩ ∧ lows s'.H.length B.cs)
    (hinj : ∀ b b', b < s'.H.length → b' < s'.H.length → b ≠ b' → σ b ≠ σ b') : Weak m n s s' := fun ρ a w hr hms => by
  refine ⟨fun b => ρ (σ b), ⟨⟨hr.tmps.size, hr.tmps.defers, fun t => ?_⟩, ?_⟩, hm, fun b hb => by show ρ (σ b) = ρ b; rw [hσm b hb], ?_⟩
  · have : ∀ (l : List (Nat × V)), (∀ p ∈ l, p.2.ren σ = s.get p.1 ∧ p.2.low s'.H.length) → VR (fun b => ρ (σ b)) (· < s'.H.length) w (lookS l t) (a.tmps.getD t undef) := by
      intro l
      induction l with
      | nil => intro _; show VR _ _ _ .junk _; unfold VR; trivial
      | cons p l ih =>
        intro h
        simp only [lookS]
        split
        · rename_i e
          have h1 := h p (by simp)
          have h2 := hr.tmps.slot t
          rw [← e, ← h1.1] at h2
          rw [← e]
          exact h2.unren h1.2
        · exact ih fun q hq => h q (by simp [hq])
    exact this s'.t ht
  · refine ⟨fun b B h => getH_lt h, fun b B h => hr.mem.lt _ _ (hH b B h).1, fun b b' B B' h h' hro hne => ?_, fun b B h i v hv => ?_, fun b B h hro i hi => ?_⟩
    · exact hr.mem.inj _ _ _ _ (hH b B h).1 (hH b' B' h').1 hro (hinj b b' (getH_lt h) (getH_lt h') hne)
    · have h1 : (rens σ B.cs)[i]? = some (v.ren σ) := by rw [rens_eq, List.getElem?_map, hv]; rfl
      obtain ⟨r, g1, g2⟩ := hr.mem.cell _ _ (hH b B h).1 i _ h1
      exact ⟨r, g1, g2.unren (lows_get (hH b B h).2 hv)⟩
    · exact hr.mem.free _ _ (hH b B h).1 hro i (by show i < (rens σ B.cs).length; rw [rens_eq, List.length_map]; exact hi)
  · exact (Frame.refl ρ (getH s.H) w).less fun b B hB hro => ⟨σ b, _, (hH b B hB).1, hro, rfl⟩
def slotsOk (σ : Nat → Nat) (N : Nat) (s : St) : List (Nat × V) → Prop
  | [] => True
  | p :: l => (p.2.ren σ = s.get p.1 ∧ p.2.low N) ∧ slotsOk σ N s l
def blksOk (σ : Nat → Nat) (N : Nat) (s : St) : List (Option Blk) → Nat → Prop
  | [], _ => True
  | none :: l, i => blksOk σ N s l (i + 1)
  | some B :: l, i => (getH s.H (σ i) = some ⟨B.ro, rens σ B.cs⟩ ∧ lows N B.cs) ∧ blksOk σ N s l (i + 1)
theorem slotsOk_all {σ : Nat → Nat} {N : Nat} : ∀ {l : List (Nat × V)}, slotsOk σ N s l → ∀ p ∈ l, p.2.ren σ = s.get p.1 ∧ p.2.low N
  | [], _, p, hp => by cases hp
  | q :: l, h, p, hp => by
    rcases List.mem_cons.1 hp with e | hp
    · subst e; exact h.1
    · exact slotsOk_all h.2 p hp
theorem blksOk_all {σ : Nat → Nat} {N : Nat} : ∀ {l : List (Option Blk)} {i : Nat}, blksOk σ N s l i → ∀ b B, getH l b = some B → getH s.H (σ (i + b)) = some ⟨B.ro, rens σ B.cs⟩ ∧ lows N B.cs
  | [], _, _, b, B, h => by simp [getH] at h
  | none :: l, i, hk, b, B, h => by
    cases b with
    | zero => simp [getH] at h
    | succ b => have := blksOk_all (l := l) hk b B (by simpa [getH] using h); rw [show i + (b + 1) = i + 1 + b by omega]; exact this
  | some C :: l, i, hk, b, B, h => by
    cases b with
    | zero => simp [getH] at h; subst h; exact hk.1
    | succ b => have := blksOk_all (l := l) hk.2 b B (by simpa [getH] using h); rw [show i + (b + 1) = i + 1 + b by omega]; exact this
/-- The new numbers as a list: the old number of each. -/
theorem Weak.ren (sg : List Nat) (hl : sg.length = s'.H.length) (hm : m ≤ sg.length) (hp : sg.take m = List.range m) (hnd : sg.Nodup)
    (ht : slotsOk (sgOf sg) s'.H.length s s'.t) (hH : blksOk (sgOf sg) s'.H.length s s'.H 0) : Weak m n s s' :=
  Weak.rename (sgOf sg) (by omega) (fun b hb => by
      unfold sgOf
      have h1 : (sg.take m)[b]? = some b := by rw [hp, List.getElem?_range hb]
      rw [List.getElem?_take_of_lt hb] at h1
      rw [List.getD_eq_getElem?_getD, h1]; rfl)
    (slotsOk_all ht) (fun b B h => by have := blksOk_all hH b B h; rw [Nat.zero_add] at this; exact this)
    (fun b b' hb hb' hne e => by
      unfold sgOf at e
      rw [List.getD_eq_getElem?_getD, List.getD_eq_getElem?_getD, List.getElem?_eq_getElem (by omega), List.getElem?_eq_getElem (by omega)] at e
      exact hne ((List.getElem_inj hnd).1 (by simpa using e)))
theorem again_ren {I : Nat → St → Prop} {k : Nat} (k' : Nat) (s'' : St) (sg : List Nat) (hk : k' < k) (hl : sg.length = s''.H.length) (hm : m ≤ sg.length) (hp : sg.take m = List.range m) (hnd : sg.Nodup)
    (ht : slotsOk (sgOf sg) s''.H.length s s''.t) (hH : blksOk (sgOf sg) s''.H.length s s''.H 0) (hi : I k' s'') : again m n I k s := ⟨k', s'', hk, Weak.ren sg hl hm hp hnd ht hH, hi⟩
theorem start_ren {I : Nat → St → Prop} (k : Nat) (s0 : St) (sg : List Nat) (hl : sg.length = s0.H.length) (hm : m ≤ sg.length) (hp : sg.take m = List.range m) (hnd : sg.Nodup)
    (ht : slotsOk (sgOf sg) s0.H.length s s0.t) (hH : blksOk (sgOf sg) s0.H.length s s0.H 0) (hi : I k s0) : ∃ k s0, Weak m n s s0 ∧ I k s0 := ⟨k, s0, Weak.ren sg hl hm hp hnd ht hH, hi⟩
end
end Go.Vm
