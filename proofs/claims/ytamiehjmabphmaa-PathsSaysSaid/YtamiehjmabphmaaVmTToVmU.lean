/- A part of the proof: laws of a small machine of values, or what one function answers, proved against the model; no conditions beyond those in each theorem. -/
import Derived.Below
import Derived.Test.YtamiehjmabphmaaVmP3ToVmQ
import Derived.Test.YtamiehjmabphmaaVmZToVmS
set_option linter.unusedVariables false
set_option linter.unusedSimpArgs false
set_option linter.unusedSectionVars false
section
namespace Go.Vm
open Go.RowKit
def allSome : List (Option Blk) → Prop
  | [] => True
  | none :: _ => False
  | some _ :: l => allSome l
def allRw : List (Option Blk) → Prop
  | [] => True
  | none :: l => allRw l
  | some B :: l => B.ro = false ∧ allRw l
theorem allSome_get : ∀ {l : List (Option Blk)}, allSome l → ∀ b, b < l.length → ∃ B, getH l b = some B
  | none :: _, h, _, _ => h.elim
  | some B :: l, h, 0, _ => ⟨B, rfl⟩
  | some B :: l, h, b + 1, hb => by
    obtain ⟨C, hC⟩ := allSome_get (l := l) h b (by simpa using hb)
    exact ⟨C, by simpa [getH] using hC⟩
theorem allRw_get : ∀ {l : List (Option Blk)}, allRw l → ∀ (b : Nat) B, getH l b = some B → B.ro = false
  | [], _, b, B, h => by simp [getH] at h
  | none :: l, hl, 0, B, h => by simp [getH] at h
  | none :: l, hl, b + 1, B, h => allRw_get (l := l) hl b B (by simpa [getH] using h)
  | some C :: l, hl, 0, B, h => by simp [getH] at h; subst h; exact hl.1
  | some C :: l, hl, b + 1, B, h => allRw_get (l := l) hl.2 b B (by simpa [getH] using h)
theorem allRw_drop {l : List (Option Blk)} {k : Nat} (h : allRw (l.drop k)) (b : Nat) (B : Blk) (e : getH l b = some B) (hk : k ≤ b) : B.ro = false := by
  refine allRw_get h (b - k) B ?_
  unfold getH at e ⊢
  rw [List.getElem?_drop, show k + (b - k) = b by omega]; exact e
section
variable {P : Program} {m n : Nat} {R : Exit → St → Prop} {k : List Fr} {s : St} {l : List Oper} {ops : Array Oper} {dst : Option Tmp}
variable {f : FuncId} {fs cs args args0 : List V} {v : V} {h h' : List (Option Blk)}
/-- What a call that works on memory comes to. -/
def memRes (sg : List Nat) (nid : Nat) (v : V) (h' : List (Option Blk)) : Res := { v := v.ren (sgOf (sgNew sg nid h')), pre := True, fp := sg, old := oldsOf (sgOf (sgNew sg nid h')) sg h', news := newsOf (sgOf (sgNew sg nid h')) sg h' }
theorem call_mem (sg : List Nat) (hs : Spec0 P f args0 h v h') (hc : callable P f = true) (ha : rens (sgOf sg) args0 = fs ++ args ++ cs) (hlen : sg.length = h.length) (hlow : lows h.length args0) (hnd : sg.Nodup)
    (hsg : ∀ b ∈ sg, b < s.H.length) (hall : allSome h) (hblk : blksOk (sgOf sg) h.length s h 0) (hro : allRw (h'.drop h.length)) (hle : h.length ≤ h'.length) : VCall P (.fn f fs cs) args (getH s.H) s.H.length (memRes sg s.H.length v h') :=
  .inl ⟨f, fs, cs, rfl, hc, trivial, by
    rw [← ha]
    exact spec_of_spec0 hs hlen hlow hnd hsg (allSome_get hall) (fun b B e => by have := blksOk_all hblk b B e; rw [Nat.zero_add] at this; exact this) (fun b B e hb => allRw_drop hro b B e hb) hle⟩
theorem goCall_mem (sg : List Nat) (hs : Spec0 P f args0 h v h') (hc : callable P f = true) (ha : rens (sgOf sg) args0 = fs ++ args ++ cs) (hlen : sg.length = h.length) (hlow : lows h.length args0) (hnd : sg.Nodup)
    (hsg : ∀ b ∈ sg, b < s.H.length) (hall : allSome h) (hblk : blksOk (sgOf sg) h.length s h 0) (hro : allRw (h'.drop h.length)) (hle : h.length ≤ h'.length)
    (hk : goOps P m n R l ops k (s.after dst (memRes sg s.H.length v h'))) : goCall P m n R (.fn f fs cs) args dst l ops k s :=
  ⟨_, call_mem sg hs hc ha hlen hlow hnd hsg hall hblk hro hle, hk⟩
theorem goCallD_mem {tr : Tr} (sg : List Nat) (hs : Spec0 P f args0 h v h') (hc : callable P f = true) (ha : rens (sgOf sg) args0 = fs ++ args ++ cs) (hlen : sg.length = h.length) (hlow : lows h.length args0) (hnd : sg.Nodup)
    (hsg : ∀ b ∈ sg, b < s.H.length) (hall : allSome h) (hblk : blksOk (sgOf sg) h.length s h 0) (hro : allRw (h'.drop h.length)) (hle : h.length ≤ h'.length)
    (hk : (∀ x ∈ (memRes sg s.H.length v h').old, x.1 < s.H.length) ∧ goOpsD P m n R l (tr ++ [foot s (memRes sg s.H.length v h')]) ops k (s.after dst (memRes sg s.H.length v h'))) : goCallD P m n R (.fn f fs cs) args dst l tr ops k s :=
  ⟨_, call_mem sg hs hc ha hlen hlow hnd hsg hall hblk hro hle, hk⟩
/-- The end of a function, its blocks under other numbers. -/
theorem Fin.ren (sg : List Nat) {v' : V} (hl : sg.length = h'.length) (hm : m ≤ sg.length) (hp : sg.take m = List.range m) (hnd : sg.Nodup) (hv : v'.ren (sgOf sg) = v ∧ v'.low h'.length)
    (hH : blksOk (sgOf sg) h'.length s h' 0) : Fin m v' h' v s := by
  obtain ⟨rfl, hv⟩ := hv
  have hσm : ∀ b, b < m → sgOf sg b = b := fun b hb => by
    unfold sgOf
    have h1 : (sg.take m)[b]? = some b := by rw [hp, List.getElem?_range hb]
    rw [List.getElem?_take_of_lt hb] at h1
    rw [List.getD_eq_getElem?_getD, h1]; rfl
  have hinj : ∀ b b', b < h'.length → b' < h'.length → b ≠ b' → sgOf sg b ≠ sgOf sg b' := fun b b' hb hb' hne e => by
    have e1 := sgOf_get (sg := sg) (b := b) (by omega)
    have e2 := sgOf_get (sg := sg) (b := b') (by omega)
    rw [e] at e1
    rw [List.getElem?_eq_getElem (by omega)] at e1 e2
    exact hne ((List.getElem_inj hnd).1 (by rw [Option.some.inj e1, Option.some.inj e2]))
  have hg : ∀ b B, getH h' b = some B → getH s.H (sgOf sg b) = some ⟨B.ro, rens (sgOf sg) B.cs, B.mp⟩ ∧ lows h'.length B.cs := fun b B e => by have := blksOk_all hH b B e; rw [Nat.zero_add] at this; exact this
  refine ⟨by omega, fun ρ w r h1 h2 _ => ⟨fun b => ρ (sgOf sg b), h1.unren hv, ?_, fun b hb => by show ρ (sgOf sg b) = ρ b; rw [hσm b hb], fun b B e hr => ⟨_, _, (hg b B e).1, hr, rfl⟩⟩⟩
  refine ⟨fun b B e => getH_lt e, fun b B e => h2.lt _ _ (hg b B e).1, fun b b' B B' e e' hr hne => h2.inj _ _ _ _ (hg b B e).1 (hg b' B' e').1 hr (hinj b b' (getH_lt e) (getH_lt e') hne), fun b B e i u hu => ?_, fun b B e hr i hi => ?_, fun b B mm e hmp => h2.mapc _ _ mm (hg b B e).1 hmp⟩
  · have h3 : (rens (sgOf sg) B.cs)[i]? = some (u.ren (sgOf sg)) := by rw [rens_eq, List.getElem?_map, hu]; rfl
    obtain ⟨r, g1, g2⟩ := h2.cell _ _ (hg b B e).1 i _ h3
    exact ⟨r, g1, g2.unren (lows_get (hg b B e).2 hu)⟩
  · exact h2.free _ _ (hg b B e).1 hr i (by show i < (rens (sgOf sg) B.cs).length; rw [rens_eq, List.length_map]; exact hi)
/-- A library function, by a contract of the kit: it gives a plain value, and of what was there nothing turns. -/
theorem pure_of_below (hc : callable P f = true) (ha : lows 0 args) (hb : v.low 0)
    (hs : ∀ (w : World) (rargs : Array Value), VRs (fun _ => (0, 0)) (fun _ => False) w args rargs.toList → Calls P f rargs w fun e w' => ∃ r, e = .returned r ∧ VR (fun _ => (0, 0)) (fun _ => False) w' v r ∧ Below w.heap.size w w') : PureFn P f args v := by
  refine pure_of_spec0 hc ha fun ρ w rargs hr hm => ?_
  have hr' : VRs (fun _ => (0, 0)) (fun _ => False) w args rargs.toList := hr.mono (fun b (hb : b < 0) => by omega) (fun b (hb : b < 0) => by omega) (Lasts.refl _)
  refine (hs w rargs hr').mono ?_
  rintro e w' ⟨r, rfl, h1, h2⟩
  have hcell : ∀ p : Addr, p.block < w.heap.size → w'.cell? p = w.cell? p := fun p hp => h2.cell hp
  have hfroz : ∀ p : Addr, p.block < w.heap.size → w'.frozen? p = w.frozen? p := fun p hp => h2.frozen hp
  refine ⟨r, ρ, rfl, h1.mono (fun b hb => hb.elim) (fun b hb => hb.elim) (Lasts.refl _), ⟨fun b B e => by simp [getH] at e, fun b B e => by simp [getH] at e, fun b b' B B' e => by simp [getH] at e, fun b B e => by simp [getH] at e, fun b B e => by simp [getH] at e, fun b B mm e => by simp [getH] at e⟩, Nat.le_refl _, fun _ _ => rfl, ?_⟩
  refine ⟨h2.os, h2.output, h2.tape, h2.size, fun r hr _ => h2.block r hr, fun b o hs => ?_, fun b B e => by simp [getH] at e⟩
  have hlt : b < w.heap.size := by
    obtain ⟨u, hu⟩ := Option.isSome_iff_exists.1 hs
    exact World.block_lt_of_cell? (a := ⟨b, o, none⟩) w hu
  exact ⟨by rw [hcell ⟨b, o, none⟩ hlt]; exact hs, fun hf => by rw [hfroz ⟨b, o, none⟩ hlt]; exact hf⟩
end
/-! The simplifier's rules. -/
theorem oldsOf_cons (σ : Nat → Nat) (i : Nat) (sg : List Nat) (x : Option Blk) (h : List (Option Blk)) : oldsOf σ (i :: sg) (x :: h) = (i, renO σ x) :: oldsOf σ sg h := by rw [oldsOf]
theorem oldsOf_nil (σ : Nat → Nat) (h : List (Option Blk)) : oldsOf σ [] h = [] := by unfold oldsOf; rfl
theorem newsOf_cons (σ : Nat → Nat) (i : Nat) (sg : List Nat) (x : Option Blk) (h : List (Option Blk)) : newsOf σ (i :: sg) (x :: h) = newsOf σ sg h := rfl
theorem newsOf_nil (σ : Nat → Nat) (h : List (Option Blk)) : newsOf σ [] h = h.map (renO σ) := rfl
theorem renO_some (σ : Nat → Nat) (ro : Bool) (cs : List V) (mp : Option MapC) : renO σ (some ⟨ro, cs, mp⟩) = some ⟨ro, rens σ cs, mp⟩ := rfl
theorem renO_none (σ : Nat → Nat) : renO σ none = none := rfl
theorem sgOf_zero (i : Nat) (l : List Nat) : sgOf (i :: l) 0 = i := rfl
theorem sgOf_succ (i : Nat) (l : List Nat) (b : Nat) : sgOf (i :: l) (b + 1) = sgOf l b := rfl
theorem blksOk_nil (σ : Nat → Nat) (N : Nat) (s : St) (i : Nat) : blksOk σ N s [] i = True := rfl
theorem blksOk_none (σ : Nat → Nat) (N : Nat) (s : St) (l : List (Option Blk)) (i : Nat) : blksOk σ N s (none :: l) i = blksOk σ N s l (i + 1) := rfl
theorem blksOk_some (σ : Nat → Nat) (N : Nat) (s : St) (B : Blk) (l : List (Option Blk)) (i : Nat) : blksOk σ N s (some B :: l) i = ((getH s.H (σ i) = some ⟨B.ro, rens σ B.cs, B.mp⟩ ∧ lows N B.cs) ∧ blksOk σ N s l (i + 1)) := rfl
theorem rens_map {α : Type} (σ : Nat → Nat) (mk : α → V) (hmk : ∀ x, (mk x).ren σ = mk x) (l : List α) : rens σ (l.map mk) = l.map mk := by
  rw [rens_eq, List.map_map]; exact List.map_congr_left fun x _ => hmk x
theorem lows_map {α : Type} (N : Nat) (mk : α → V) (hmk : ∀ x, (mk x).low N) (l : List α) : lows N (l.map mk) := by
  induction l with
  | nil => trivial
  | cons x l ih => exact ⟨hmk x, ih⟩
theorem rens_u8 (σ : Nat → Nat) (l : List (BitVec 8)) : rens σ (l.map .u8) = l.map .u8 := rens_map σ _ (fun _ => by unfold V.ren; rfl) l
theorem rens_u32 (σ : Nat → Nat) (l : List (BitVec 32)) : rens σ (l.map .u32) = l.map .u32 := rens_map σ _ (fun _ => by unfold V.ren; rfl) l
theorem rens_u64 (σ : Nat → Nat) (l : List (BitVec 64)) : rens σ (l.map .u64) = l.map .u64 := rens_map σ _ (fun _ => by unfold V.ren; rfl) l
theorem rens_i64 (σ : Nat → Nat) (l : List Int) : rens σ (l.map .i64) = l.map .i64 := rens_map σ _ (fun _ => by unfold V.ren; rfl) l
theorem rens_str (σ : Nat → Nat) (l : List (List (BitVec 8))) : rens σ (l.map .str) = l.map .str := rens_map σ _ (fun _ => by unfold V.ren; rfl) l
theorem lows_u8 (N : Nat) (l : List (BitVec 8)) : lows N (l.map .u8) = True := eq_true (lows_map N _ (fun _ => by simp [V.low]) l)
theorem lows_u32 (N : Nat) (l : List (BitVec 32)) : lows N (l.map .u32) = True := eq_true (lows_map N _ (fun _ => by simp [V.low]) l)
theorem lows_u64 (N : Nat) (l : List (BitVec 64)) : lows N (l.map .u64) = True := eq_true (lows_map N _ (fun _ => by simp [V.low]) l)
theorem lows_i64 (N : Nat) (l : List Int) : lows N (l.map .i64) = True := eq_true (lows_map N _ (fun _ => by simp [V.low]) l)
theorem lows_str (N : Nat) (l : List (List (BitVec 8))) : lows N (l.map .str) = True := eq_true (lows_map N _ (fun _ => by simp [V.low]) l)
attribute [go_sem] memRes oldsOf_cons oldsOf_nil newsOf_cons newsOf_nil renO_some renO_none sgOf_zero sgOf_succ sgNew rens_u8 rens_u32 rens_u64 rens_i64 rens_str lows_u8 lows_u32 lows_u64 lows_i64 lows_str V.ren rens allSome allRw blksOk_nil blksOk_none blksOk_some List.range'_succ
theorem rens_append (σ : Nat → Nat) (a b : List V) : rens σ (a ++ b) = rens σ a ++ rens σ b := by rw [rens_eq, rens_eq, rens_eq, List.map_append]
theorem lows_append (N : Nat) : ∀ a b : List V, lows N (a ++ b) = (lows N a ∧ lows N b)
  | [], b => by simp [lows]
  | x :: a, b => by rw [List.cons_append, lows, lows_append N a b, lows, and_assoc]
theorem nilEq1 : ((some true : Option Bool) == some true) = true := rfl
theorem nilEq2 : ((some true : Option Bool) == some false) = false := rfl
theorem nilEq3 : ((some false : Option Bool) == some true) = false := rfl
theorem nilEq4 : ((some false : Option Bool) == some false) = true := rfl
attribute [go_sem] isNilT vnil nilEq1 nilEq2 nilEq3 nilEq4
/-! Rows of numbers. -/
theorem getD_u32 {s : List (BitVec 32)} {i : Nat} (h : i < s.length) : (s.map V.u32).getD i .junk = .u32 (s.getD i 0) := by
  rw [List.getD_eq_getElem?_getD, List.getD_eq_getElem?_getD, List.getElem?_map, List.getElem?_eq_getElem h]; rfl
theorem getD_u64 {s : List (BitVec 64)} {i : Nat} (h : i < s.length) : (s.map V.u64).getD i .junk = .u64 (s.getD i 0) := by
  rw [List.getD_eq_getElem?_getD, List.getD_eq_getElem?_getD, List.getElem?_map, List.getElem?_eq_getElem h]; rfl
theorem getD_i64 {s : List Int} {i : Nat} (h : i < s.length) : (s.map V.i64).getD i .junk = .i64 (s.getD i 0) := by
  rw [List.getD_eq_getElem?_getD, List.getD_eq_getElem?_getD, List.getElem?_map, List.getElem?_eq_getElem h]; rfl
theorem getD_str {s : List (List (BitVec 8))} {i : Nat} (h : i < s.length) : (s.map V.str).getD i .junk = .str (s.getD i []) := by
  rw [List.getD_eq_getElem?_getD, List.getD_eq_getElem?_getD, List.getElem?_map, List.getElem?_eq_getElem h]; rfl
theorem set_u32 (s : List (BitVec 32)) (i : Nat) (x : BitVec 32) : (s.map V.u32).set i (.u32 x) = (s.set i x).map V.u32 := List.map_set.symm
theorem set_u64 (s : List (BitVec 64)) (i : Nat) (x : BitVec 64) : (s.map V.u64).set i (.u64 x) = (s.set i x).map V.u64 := List.map_set.symm
theorem set_i64 (s : List Int) (i : Nat) (x : Int) : (s.map V.i64).set i (.i64 x) = (s.set i x).map V.i64 := List.map_set.symm
theorem take_u32 (s : List (BitVec 32)) (i : Nat) : (s.map V.u32).take i = (s.take i).map V.u32 := List.map_take.symm
theorem take_u64 (s : List (BitVec 64)) (i : Nat) : (s.map V.u64).take i = (s.take i).map V.u64 := List.map_take.symm
theorem take_i64 (s : List Int) (i : Nat) : (s.map V.i64).take i = (s.take i).map V.i64 := List.map_take.symm
theorem take_str (s : List (List (BitVec 8))) (i : Nat) : (s.map V.str).take i = (s.take i).map V.str := List.map_take.symm
theorem drop_u32 (s : List (BitVec 32)) (i : Nat) : (s.map V.u32).drop i = (s.drop i).map V.u32 := List.map_drop.symm
theorem drop_u64 (s : List (BitVec 64)) (i : Nat) : (s.map V.u64).drop i = (s.drop i).map V.u64 := List.map_drop.symm
theorem drop_i64 (s : List Int) (i : Nat) : (s.map V.i64).drop i = (s.drop i).map V.i64 := List.map_drop.symm
theorem drop_str (s : List (List (BitVec 8))) (i : Nat) : (s.map V.str).drop i = (s.drop i).map V.str := List.map_drop.symm
theorem append_u32 (s t : List (BitVec 32)) : s.map V.u32 ++ t.map V.u32 = (s ++ t).map V.u32 := List.map_append.symm
theorem append_u64 (s t : List (BitVec 64)) : s.map V.u64 ++ t.map V.u64 = (s ++ t).map V.u64 := List.map_append.symm
theorem append_i64 (s t : List Int) : s.map V.i64 ++ t.map V.i64 = (s ++ t).map V.i64 := List.map_append.symm
theorem one_map {α : Type} (mk : α → V) (hmk : ∀ x, (mk x).one = true) (s : List α) : (∀ v ∈ s.map mk, v.one = true) = True := by
  refine propext ⟨fun _ => trivial, fun _ v hv => ?_⟩
  obtain ⟨x, _, rfl⟩ := List.mem_map.1 hv
  exact hmk x
theorem one_u32 (s : List (BitVec 32)) : (∀ v ∈ s.map V.u32, v.one = true) = True := one_map _ (fun _ => rfl) s
theorem one_u64 (s : List (BitVec 64)) : (∀ v ∈ s.map V.u64, v.one = true) = True := one_map _ (fun _ => rfl) s
theorem one_i64 (s : List Int) : (∀ v ∈ s.map V.i64, v.one = true) = True := one_map _ (fun _ => rfl) s
attribute [go_sem] set_u32 set_u64 set_i64 take_u32 take_u64 take_i64 take_str drop_u32 drop_u64 drop_i64 drop_str append_u32 append_u64 append_i64 one_u32 one_u64 one_i64
/-- A byte behind a row of bytes. -/
theorem snoc_u8 (s : List (BitVec 8)) (x : BitVec 8) : s.map V.u8 ++ [.u8 x] = (s ++ [x]).map V.u8 := by simp
theorem snoc_u32 (s : List (BitVec 32)) (x : BitVec 32) : s.map V.u32 ++ [.u32 x] = (s ++ [x]).map V.u32 := by simp
theorem snoc_u64 (s : List (BitVec 64)) (x : BitVec 64) : s.map V.u64 ++ [.u64 x] = (s ++ [x]).map V.u64 := by simp
theorem snoc_i64 (s : List Int) (x : Int) : s.map V.i64 ++ [.i64 x] = (s ++ [x]).map V.i64 := by simp
theorem snoc_str (s : List (List (BitVec 8))) (x : List (BitVec 8)) : s.map V.str ++ [.str x] = (s ++ [x]).map V.str := by simp
attribute [go_sem] snoc_u8 snoc_u32 snoc_u64 snoc_i64 snoc_str
end Go.Vm
end
section
/-! A call that only reads: it turns none of the blocks that are there. -/
namespace Go.Vm
open Go
def Res.read (r : Res) : Res := { r with old := [] }
theorem lookOld_same {get : Nat → Option Blk} {b : Nat} : ∀ {old : List (Nat × Option Blk)} (_ : ∀ x ∈ old, get x.1 = x.2), lookOld old b (get b) = get b := fun {old} h => by
  induction old with
  | nil => rfl
  | cons x l ih =>
    obtain ⟨i, o⟩ := x
    have h1 := h (i, o) List.mem_cons_self
    have h2 := ih fun y hy => h y (List.mem_cons_of_mem _ hy)
    unfold lookOld
    split
    · rename_i e
      first
        | (rw [← h1]; simp_all)
        | simp_all
    · exact h2
theorem upd_same {get : Nat → Option Blk} {old : List (Nat × Option Blk)} {nid : Nat} {news : List (Option Blk)} (h : ∀ x ∈ old, get x.1 = x.2) : upd get old nid news = upd get [] nid news := by
  funext b
  unfold upd
  rw [lookOld_same h]
  rfl
section
variable {P : Program} {m n : Nat} {R : Exit → St → Prop} {k : List Fr} {s : St} {l : List Oper} {ops : Array Oper} {dst : Option Tmp}
variable {f : FuncId} {fs cs args args0 : List V} {v : V} {h h' : List (Option Blk)}
theorem Spec.read {get0 : Nat → Option Blk} {nid : Nat} {r : Res} (hs : Spec P f args get0 nid r) (ho : ∀ x ∈ r.old, x.1 ∈ r.fp ∧ get0 x.1 = x.2) : Spec P f args get0 nid r.read := by
  intro ρ dom get w rargs hm hr hfp hdom
  refine (hs ρ dom get w rargs hm hr hfp hdom).mono ?_
  have hsame : upd get r.old nid r.news = upd get [] nid r.news := upd_same fun x hx => by rw [hfp _ (ho x hx).1]; exact (ho x hx).2
  rintro e w' ⟨r', ρ', h1, h2, h3, h4, h5⟩
  rw [hsame] at h3 h5
  exact ⟨r', ρ', h1, h2, h3, h4, h5⟩
theorem VCall.read {fv : V} {get0 : Nat → Option Blk} {nid : Nat} {r : Res} (hs : VCall P fv args get0 nid r) (ho : ∀ x ∈ r.old, x.1 ∈ r.fp ∧ get0 x.1 = x.2) : VCall P fv args get0 nid r.read := by
  rcases hs with ⟨f, fs, cs, h1, h2, h3, h4⟩ | ⟨f, fs, cs, h1, _, h3, h4⟩
  · exact .inl ⟨f, fs, cs, h1, h2, h3, h4.read ho⟩
  · exact .inr ⟨f, fs, cs, h1, rfl, h3, h4⟩
theorem goCallD_read {tr : Tr} (sg : List Nat) (hs : Spec0 P f args0 h v h') (hc : callable P f = true) (ha : rens (sgOf sg) args0 = fs ++ args ++ cs) (hlen : sg.length = h.length) (hlow : lows h.length args0) (hnd : sg.Nodup)
    (hsg : ∀ b ∈ sg, b < s.H.length) (hall : allSome h) (hblk : blksOk (sgOf sg) h.length s h 0) (hro : allRw (h'.drop h.length)) (hle : h.length ≤ h'.length)
    (ho : ∀ x ∈ (memRes sg s.H.length v h').old, x.1 ∈ sg ∧ getH s.H x.1 = x.2)
    (hk : goOpsD P m n R l (tr ++ [foot s (memRes sg s.H.length v h').read]) ops k (s.after dst (memRes sg s.H.length v h').read)) : goCallD P m n R (.fn f fs cs) args dst l tr ops k s :=
  ⟨_, (call_mem sg hs hc ha hlen hlow hnd hsg hall hblk hro hle).read ho, fun x hx => by simp [Res.read] at hx, hk⟩
end
attribute [go_sem] Res.read
end Go.Vm
end
