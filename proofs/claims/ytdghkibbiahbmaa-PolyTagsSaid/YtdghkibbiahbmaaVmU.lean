/- A part of the proof: laws of a small machine of values, or what one function answers, proved against the model; no conditions beyond those in each theorem. -/
import Derived.Test.YtdghkibbiahbmaaVmT
set_option linter.unusedVariables false
set_option linter.unusedSimpArgs false
set_option linter.unusedSectionVars false
/-! A call that only reads: it turns none of the blocks that are there. -/
namespace Go.Vm
open Go
def Res.read (r : Res) : Res := { r with old := [] }
theorem lookOld_same {get : Nat → Option Blk} {b : Nat} : ∀ {old : List (Nat × Option Blk)} (_ : ∀ x ∈ old, get x.1 = x.2), lookOld old b (get b) = get b := fun {old} h => by
  induction old with
  | nil => rfl
  | cons x l ih =>
    obtain ⟨i, o⟩ := x
    have h1 := h (i, o) List.mem_cons_self
    have h2 := ih fun y hy => h y (List.mem_cons_of_mem _ hy)
    unfold lookOld
    split
    · rename_i e
      first
        | (rw [← h1]; simp_all)
        | simp_all
    · exact h2
theorem upd_same {get : Nat → Option Blk} {old : List (Nat × Option Blk)} {nid : Nat} {news : List (Option Blk)} (h : ∀ x ∈ old, get x.1 = x.2) : upd get old nid news = upd get [] nid news := by
  funext b
  unfold upd
  rw [lookOld_same h]
  rfl
section
variable {P : Program} {m n : Nat} {R : Exit → St → Prop} {k : List Fr} {s : St} {l : List Oper} {ops : Array Oper} {dst : Option Tmp}
variable {f : FuncId} {fs cs args args0 : List V} {v : V} {h h' : List (Option Blk)}
theorem Spec.read {get0 : Nat → Option Blk} {nid : Nat} {r : Res} (hs : Spec P f args get0 nid r) (ho : ∀ x ∈ r.old, x.1 ∈ r.fp ∧ get0 x.1 = x.2) : Spec P f args get0 nid r.read := by
  intro ρ dom get w rargs hm hr hfp hdom
  refine (hs ρ dom get w rargs hm hr hfp hdom).mono ?_
  have hsame : upd get r.old nid r.news = upd get [] nid r.news := upd_same fun x hx => by rw [hfp _ (ho x hx).1]; exact (ho x hx).2
  rintro e w' ⟨r', ρ', h1, h2, h3, h4, h5⟩
  rw [hsame] at h3 h5
  exact ⟨r', ρ', h1, h2, h3, h4, h5⟩
theorem VCall.read {fv : V} {get0 : Nat → Option Blk} {nid : Nat} {r : Res} (hs : VCall P fv args get0 nid r) (ho : ∀ x ∈ r.old, x.1 ∈ r.fp ∧ get0 x.1 = x.2) : VCall P fv args get0 nid r.read := by
  rcases hs with ⟨f, fs, cs, h1, h2, h3, h4⟩ | ⟨f, fs, cs, h1, _, h3, h4⟩
  · exact .inl ⟨f, fs, cs, h1, h2, h3, h4.read ho⟩
  · exact .inr ⟨f, fs, cs, h1, rfl, h3, h4⟩
theorem goCallD_read {tr : Tr} (sg : List Nat) (hs : Spec0 P f args0 h v h') (hc : callable P f = true) (ha : rens (sgOf sg) args0 = fs ++ args ++ cs) (hlen : sg.length = h.length) (hlow : lows h.length args0) (hnd : sg.Nodup)
    (hsg : ∀ b ∈ sg, b < s.H.length) (hall : allSome h) (hblk : blksOk (sgOf sg) h.length s h 0) (hro : allRw (h'.drop h.length)) (hle : h.length ≤ h'.length)
    (ho : ∀ x ∈ (memRes sg s.H.length v h').old, x.1 ∈ sg ∧ getH s.H x.1 = x.2)
    (hk : goOpsD P m n R l (tr ++ [foot s (memRes sg s.H.length v h').read]) ops k (s.after dst (memRes sg s.H.length v h').read)) : goCallD P m n R (.fn f fs cs) args dst l tr ops k s :=
  ⟨_, (call_mem sg hs hc ha hlen hlow hnd hsg hall hblk hro hle).read ho, fun x hx => by simp [Res.read] at hx, hk⟩
end
attribute [go_sem] Res.read
end Go.Vm
