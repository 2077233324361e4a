/- A part of the proof: laws of a small machine of values, or what one function answers, proved against the model; no conditions beyond those in each theorem. -/
import Derived.Test.YtdghkibbiahbmaaPoL
set_option linter.unusedVariables false
set_option linter.unusedSimpArgs false
set_option linter.unusedSectionVars false
namespace Go.Vm
open Go.Proofs
set_option maxRecDepth 20000
def valL : List (BitVec 64) → Nat
  | [] => 0
  | x :: l => x.toNat + 8192 * valL l
def passC (c : BitVec 64) : List (BitVec 64) → List (BitVec 64) × BitVec 64
  | [] => ([], c)
  | x :: l => ((x + c) % 8192#64 :: (passC ((x + c) / 8192#64) l).1, (passC ((x + c) / 8192#64) l).2)
theorem passC_length (l : List (BitVec 64)) : ∀ c, (passC c l).1.length = l.length := by
  induction l with
  | nil => intro c; rfl
  | cons x l ih => intro c; rw [passC, List.length_cons, List.length_cons, ih]
theorem passC_snoc (l : List (BitVec 64)) (x : BitVec 64) : ∀ c, passC c (l ++ [x]) = ((passC c l).1 ++ [(x + (passC c l).2) % 8192#64], (x + (passC c l).2) / 8192#64) := by
  induction l with
  | nil => intro c; rfl
  | cons y l ih => intro c; rw [List.cons_append, passC, ih, passC]; rfl
theorem passTo_eq (w : List (BitVec 64)) (k : Nat) (hk : k ≤ w.length) : passTo w k = ((passC 0#64 (w.take k)).1 ++ w.drop k, (passC 0#64 (w.take k)).2) := by
  induction k with
  | zero => rfl
  | succ k ih =>
    have hkl : k < w.length := by omega
    have hl : (passC 0#64 (w.take k)).1.length = k := by rw [passC_length, List.length_take]; omega
    have hg : ((passC 0#64 (w.take k)).1 ++ w.drop k).getD k 0 = w.getD k 0 := by
      rw [List.getD_eq_getElem?_getD, List.getElem?_append_right (by omega), hl, Nat.sub_self, List.getElem?_drop, Nat.add_zero, ← List.getD_eq_getElem?_getD]
    have ht : w.take (k + 1) = w.take k ++ [w.getD k 0] := by
      rw [List.take_succ_eq_append_getElem hkl, List.getD_eq_getElem?_getD, List.getElem?_eq_getElem hkl]; rfl
    rw [passTo, ih (by omega)]
    simp only
    rw [hg, ht, passC_snoc, List.set_append_right _ _ (by omega), hl, Nat.sub_self, List.drop_eq_getElem_cons hkl, List.set_cons_zero]
    simp
theorem passC_val (l : List (BitVec 64)) : ∀ c : BitVec 64, c.toNat < 4611686018427387904 → (∀ x ∈ l, x.toNat < 9223372036854775808) → valL (passC c l).1 + 8192 ^ l.length * (passC c l).2.toNat = valL l + c.toNat ∧ (∀ x ∈ (passC c l).1, x.toNat < 8192) := by
  induction l with
  | nil => intro c _ _; exact ⟨by simp [passC, valL], by simp [passC]⟩
  | cons x l ih =>
    intro c hc hx
    have h0 := hx x List.mem_cons_self
    have es : (x + c).toNat = x.toNat + c.toNat := by rw [BitVec.toNat_add]; omega
    have eq : ((x + c) / 8192#64).toNat = (x.toNat + c.toNat) / 8192 := by rw [BitVec.toNat_udiv, es]; rfl
    have em : ((x + c) % 8192#64).toNat = (x.toNat + c.toNat) % 8192 := by rw [BitVec.toNat_umod, es]; rfl
    obtain ⟨i1, i2⟩ := ih ((x + c) / 8192#64) (by rw [eq]; omega) (fun y hy => hx y (List.mem_cons_of_mem _ hy))
    rw [eq] at i1
    refine ⟨?_, ?_⟩
    · rw [passC]
      show ((x + c) % 8192#64).toNat + 8192 * valL (passC ((x + c) / 8192#64) l).1 + 8192 ^ (l.length + 1) * (passC ((x + c) / 8192#64) l).2.toNat = x.toNat + 8192 * valL l + c.toNat
      rw [em, Nat.pow_succ, Nat.mul_comm (8192 ^ l.length) 8192, Nat.mul_assoc]
      omega
    · rw [passC]
      intro y hy
      rcases List.mem_cons.1 hy with rfl | hy
      · rw [em]; omega
      · exact i2 y hy
end Go.Vm
