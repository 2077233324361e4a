/- A region that draws its order: run in the text's order, with a look at who must come ahead of whom. -/
import Derived.Test.YtdghkibbiahbmaaVmM
set_option linter.unusedVariables false
set_option linter.unusedSimpArgs false
set_option linter.unusedSectionVars false
namespace Go.Vm

/-! ### Who has been listed -/
/-- The last of the writers that p lets. -/
def pickW {α : Type} (p : Nat → Bool) : List (Option α) → Nat → α → α
  | [], _, d => d
  | none :: r, i, d => pickW p r (i + 1) d
  | some x :: r, i, d => pickW p r (i + 1) (if p i then x else d)
theorem pickW_congr {α : Type} {p q : Nat → Bool} : ∀ (ws : List (Option α)) (i : Nat) (d : α), (∀ j x, ws[j]? = some (some x) → p (i + j) = q (i + j)) → pickW p ws i d = pickW q ws i d
  | [], _, _, _ => rfl
  | none :: r, i, d, h => pickW_congr r (i + 1) d fun j x hx => by have := h (j + 1) x (by simpa using hx); rwa [show i + (j + 1) = i + 1 + j by omega] at this
  | some x :: r, i, d, h => by
    have h0 : p i = q i := h 0 x rfl
    simp only [pickW, h0]
    exact pickW_congr r (i + 1) _ fun j y hy => by have := h (j + 1) y (by simpa using hy); rwa [show i + (j + 1) = i + 1 + j by omega] at this
theorem pickW_none {α : Type} {p : Nat → Bool} : ∀ (ws : List (Option α)) (i : Nat) (d : α), (∀ j x, ws[j]? = some (some x) → p (i + j) = false) → pickW p ws i d = d
  | [], _, _, _ => rfl
  | none :: r, i, d, h => pickW_none r (i + 1) d fun j x hx => by have := h (j + 1) x (by simpa using hx); rwa [show i + (j + 1) = i + 1 + j by omega] at this
  | some x :: r, i, d, h => by
    have h0 : p i = false := h 0 x rfl
    simp only [pickW, h0, Bool.false_eq_true, if_false]
    exact pickW_none r (i + 1) d fun j y hy => by have := h (j + 1) y (by simpa using hy); rwa [show i + (j + 1) = i + 1 + j by omega] at this
/-- The last one is k. -/
theorem pickW_last {α : Type} {p : Nat → Bool} : ∀ (ws : List (Option α)) (i : Nat) (d : α) (k : Nat) (x : α), ws[k]? = some (some x) → p (i + k) = true → (∀ j y, k < j → ws[j]? = some (some y) → p (i + j) = false) → pickW p ws i d = x
  | [], _, _, _, _, h, _, _ => by simp at h
  | none :: r, i, d, 0, x, h, _, _ => by simp at h
  | none :: r, i, d, k + 1, x, h, hp, hl => pickW_last r (i + 1) d k x (by simpa using h) (by rwa [show i + 1 + k = i + (k + 1) by omega]) fun j y hj hy => by
      have := hl (j + 1) y (by omega) (by simpa using hy); rwa [show i + (j + 1) = i + 1 + j by omega] at this
  | some z :: r, i, d, 0, x, h, hp, hl => by
    simp at h; subst h
    have hp' : p i = true := hp
    simp only [pickW, hp', if_true]
    exact pickW_none r (i + 1) z fun j y hy => by have := hl (j + 1) y (by omega) (by simpa using hy); rwa [show i + (j + 1) = i + 1 + j by omega] at this
  | some z :: r, i, d, k + 1, x, h, hp, hl => by
    simp only [pickW]
    exact pickW_last r (i + 1) _ k x (by simpa using h) (by rwa [show i + 1 + k = i + (k + 1) by omega]) fun j y hj hy => by
      have := hl (j + 1) y (by omega) (by simpa using hy); rwa [show i + (j + 1) = i + 1 + j by omega] at this
theorem pickW_snoc {α : Type} {p : Nat → Bool} : ∀ (ws : List (Option α)) (i : Nat) (d : α) (o : Option α), pickW p (ws ++ [o]) i d = match o with | some x => if p (i + ws.length) then x else pickW p ws i d | none => pickW p ws i d
  | [], i, d, o => by cases o <;> simp [pickW]
  | none :: r, i, d, o => by
    simp only [List.cons_append, pickW, pickW_snoc r (i + 1) d o, List.length_cons]
    rw [show i + 1 + r.length = i + (r.length + 1) by omega]
  | some x :: r, i, d, o => by
    simp only [List.cons_append, pickW, pickW_snoc r (i + 1) _ o, List.length_cons]
    rw [show i + 1 + r.length = i + (r.length + 1) by omega]

/-! ### Who must come ahead of whom -/
def maskOf (o : Oper) (acc : List Nat) : Nat := o.after.toList.foldl (fun s e => if Region.binds .any e then s ||| (1 <<< e.on) ||| acc.getD e.on 0 else s) 0
def befs : List Oper → List Nat → List Nat
  | [], acc => acc
  | o :: r, acc => befs r (acc ++ [maskOf o acc])
theorem befs_get : ∀ (l : List Oper) (acc : List Nat) (j : Nat), j < acc.length → (befs l acc).getD j 0 = acc.getD j 0
  | [], _, _, _ => rfl
  | o :: r, acc, j, h => by
    rw [befs, befs_get r _ j (by simp; omega)]
    simp [List.getD_eq_getElem?_getD, List.getElem?_append_left h]
theorem befs_at : ∀ (l : List Oper) (acc : List Nat) (j : Nat) (o : Oper), l[j]? = some o → (befs l acc).getD (acc.length + j) 0 = maskOf o ((befs l acc).take (acc.length + j))
  | [], _, _, _, h => by simp at h
  | o :: r, acc, 0, o', h => by
    simp at h; subst h
    rw [befs, Nat.add_zero, befs_get r _ _ (by simp)]
    have htake : ∀ (l : List Oper) (acc2 : List Nat) (k : Nat), k ≤ acc2.length → (befs l acc2).take k = acc2.take k := by
      intro l
      induction l with
      | nil => intro _ _ _; rfl
      | cons o l ih => intro acc2 k hk; rw [befs, ih _ _ (by simp; omega), List.take_append_of_le_length hk]
    rw [htake r _ _ (by simp)]
    simp [List.getD_eq_getElem?_getD]
  | o :: r, acc, j + 1, o', h => by
    have ih := befs_at r (acc ++ [maskOf o acc]) j o' (by simpa using h)
    rw [befs]
    simpa [Nat.add_assoc, Nat.add_comm 1 j] using ih
theorem mask_bit (o : Oper) (acc : List Nat) (i : Nat) (h : (maskOf o acc).testBit i = true) : ∃ e ∈ o.after.toList, Region.binds .any e = true ∧ (e.on = i ∨ (acc.getD e.on 0).testBit i = true) := by
  unfold maskOf at h
  have : ∀ (l : List Edge) (s : Nat), (l.foldl (fun s e => if Region.binds .any e then s ||| (1 <<< e.on) ||| acc.getD e.on 0 else s) s).testBit i = true → s.testBit i = true ∨ ∃ e ∈ l, Region.binds .any e = true ∧ (e.on = i ∨ (acc.getD e.on 0).testBit i = true) := by
    intro l
    induction l with
    | nil => intro s h; exact .inl h
    | cons e l ih =>
      intro s h
      rw [List.foldl_cons] at h
      rcases ih _ h with h1 | ⟨e', h1, h2⟩
      · by_cases hb : Region.binds .any e = true
        · rw [if_pos hb] at h1
          simp only [Nat.testBit_or, Bool.or_eq_true] at h1
          rcases h1 with (h1 | h1) | h1
          · exact .inl h1
          · refine .inr ⟨e, by simp, hb, .inl ?_⟩
            rw [Nat.one_shiftLeft, Nat.testBit_two_pow] at h1
            simpa using h1
          · exact .inr ⟨e, by simp, hb, .inr h1⟩
        · rw [if_neg hb] at h1; exact .inl h1
      · exact .inr ⟨e', by simp [h1], h2⟩
  rcases this _ 0 h with h | h
  · simp at h
  · exact h
/-- Whoever is listed has all that must come ahead of it listed. -/
def ClosedL (ops : List Oper) (L : Nat → Bool) : Prop := ∀ j o, ops[j]? = some o → L j = true → ∀ e ∈ o.after.toList, Region.binds .any e = true → L e.on = true
theorem mask_listed {ops : List Oper} {L : Nat → Bool} (hc : ClosedL ops L) : ∀ (j : Nat) (o : Oper), ops[j]? = some o → (∀ e ∈ o.after.toList, Region.binds .any e = true → L e.on = true) → ∀ i, ((befs ops []).getD j 0).testBit i = true → L i = true := by
  intro j
  induction j using Nat.strongRecOn with
  | _ j ih =>
    intro o ho hp i hi
    have hat := befs_at ops [] j o ho
    simp only [List.length_nil, Nat.zero_add] at hat
    rw [hat] at hi
    obtain ⟨e, h1, h2, h3⟩ := mask_bit o _ i hi
    have hl := hp e h1 h2
    rcases h3 with rfl | h3
    · exact hl
    · by_cases hlt : e.on < j
      · have hg : ((befs ops []).take j).getD e.on 0 = (befs ops []).getD e.on 0 := by
          simp [List.getD_eq_getElem?_getD, List.getElem?_take, hlt]
        rw [hg] at h3
        cases ho' : ops[e.on]? with
        | none => rw [List.getElem?_eq_none_iff] at ho'; have := (List.getElem?_eq_some_iff.1 ho).1; omega
        | some o' => exact ih e.on hlt o' ho' (fun e' h4 h5 => hc e.on o' ho' hl e' h4 h5) i h3
      · have : ((befs ops []).take j).getD e.on 0 = 0 := by
          simp [List.getD_eq_getElem?_getD, List.getElem?_take, hlt]
        rw [this] at h3
        simp at h3

/-- The slots that an operation names. -/
def slotsOf (ops : Array Oper) (o : Oper) : List Tmp := o.dst.toList ++ (o.op.operands.toList.filterMap fun | .tmp t => some t | _ => none) ++ (match o.guard with
  | some (j, _) => (guardSlot ops j).toList
  | none => [])
def meets (a b : List Nat) : Bool := a.any fun x => b.contains x
/-- May the two stand in either order? -/
def apartE (ops : Array Oper) (o o' : Oper) (e e' : List Nat × List Nat) : Bool :=
  !(meets o.dst.toList (slotsOf ops o')) && !(meets o'.dst.toList (slotsOf ops o)) && !(meets e.2 (e'.1 ++ e'.2)) && !(meets e'.2 (e.1 ++ e.2))
/-- Each two that may not stand in either order stand in the text's order. 'tr': the blocks that each looks at, and turns. -/
def ordOk (ops : Array Oper) (tr : List (List Nat × List Nat)) : Bool :=
  let b := befs ops.toList []
  let l := ops.toList.zip tr
  l.zipIdx.all fun (x, j) => (x.1.after.toList.all fun e => !(Region.binds .any e) || decide (e.on < j)) && l.zipIdx.all fun (y, i) => !(decide (i < j)) || (b.getD j 0).testBit i || apartE ops y.1 x.1 y.2 x.2

end Go.Vm
