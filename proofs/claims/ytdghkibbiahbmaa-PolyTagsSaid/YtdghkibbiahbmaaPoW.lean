/- A part of the proof: laws of a small machine of values, or what one function answers, proved against the model; no conditions beyond those in each theorem. -/
import Derived.Test.YtdghkibbiahbmaaPoV
set_option linter.unusedVariables false
set_option linter.unusedSimpArgs false
set_option linter.unusedSectionVars false
namespace Go.Vm
open Go.Proofs
set_option maxRecDepth 20000
theorem valL_set0 (x y : BitVec 64) (l : List (BitVec 64)) : valL ((x :: l).set 0 y) + x.toNat = valL (x :: l) + y.toNat := by
  simp only [List.set_cons_zero, valL]; omega
theorem passC_carry (l : List (BitVec 64)) : ∀ c : BitVec 64, c.toNat < 1125899906842624 → (∀ x ∈ l, x.toNat < 1152921504606846976) → (passC c l).2.toNat < 1125899906842624 := by
  induction l with
  | nil => intro c hc _; exact hc
  | cons x l ih =>
    intro c hc hx
    have h0 := hx x List.mem_cons_self
    refine ih _ ?_ (fun y hy => hx y (List.mem_cons_of_mem _ hy))
    rw [BitVec.toNat_udiv, BitVec.toNat_add, show (8192#64).toNat = 8192 from rfl]; omega
/-- A pass keeps the value modulo 2^130 - 5: what leaves at the top comes back five times. -/
theorem pass_val (w : List (BitVec 64)) (hw : w.length = 10) (hx : ∀ x ∈ w, x.toNat < 1152921504606846976) : ∃ q, valL w = valL (pass w) + 1361129467683753853853498429727072845819 * q := by
  have hp := passTo_eq w 10 (by omega)
  rw [List.take_of_length_le (by omega), List.drop_of_length_le (by omega), List.append_nil] at hp
  obtain ⟨h1, h2⟩ := passC_val w 0#64 (by decide) (fun x hx' => by have := hx x hx'; omega)
  have hl := passC_length w 0#64
  rw [hw] at h1 hl
  have hcar := passC_carry w 0#64 (by decide) hx
  unfold pass
  rw [hp]
  simp only
  generalize (passC 0#64 w).1 = r at h1 h2 hl ⊢
  generalize (passC 0#64 w).2 = c at h1 hcar ⊢
  cases r with
  | nil => simp at hl
  | cons y r =>
    have hy := h2 y List.mem_cons_self
    have hs := valL_set0 y (y + 5#64 * c) r
    have hc : c.toNat < 1152921504606846976 := by omega
    have hyc : (y + 5#64 * c).toNat = y.toNat + 5 * c.toNat := by
      rw [BitVec.toNat_add, BitVec.toNat_mul, show (5#64).toNat = 5 from rfl]; omega
    refine ⟨c.toNat, ?_⟩
    show _ = valL ((y :: r).set 0 (y + 5#64 * c)) + _
    have e8 : (8192 : Nat) ^ 10 = 1361129467683753853853498429727072845824 := by decide
    rw [e8, show (0#64).toNat = 0 from rfl] at h1
    omega
theorem pass_bound (w : List (BitVec 64)) (hw : w.length = 10) (hx : ∀ x ∈ w, x.toNat < 1152921504606846976) : ∀ x ∈ pass w, x.toNat < 1152921504606846976 := by
  have hp := passTo_eq w 10 (by omega)
  rw [List.take_of_length_le (by omega), List.drop_of_length_le (by omega), List.append_nil] at hp
  obtain ⟨_, h2⟩ := passC_val w 0#64 (by decide) (fun x hx' => by have := hx x hx'; omega)
  have hl := passC_length w 0#64
  rw [hw] at hl
  have hcar := passC_carry w 0#64 (by decide) hx
  unfold pass
  rw [hp]
  simp only
  generalize (passC 0#64 w).1 = r at h2 hl ⊢
  generalize (passC 0#64 w).2 = c at hcar ⊢
  cases r with
  | nil => simp at hl
  | cons y r =>
    have hy := h2 y List.mem_cons_self
    have hyc : (y + 5#64 * c).toNat = y.toNat + 5 * c.toNat := by
      rw [BitVec.toNat_add, BitVec.toNat_mul, show (5#64).toNat = 5 from rfl]; omega
    intro x hx'
    rw [List.set_cons_zero] at hx'
    rcases List.mem_cons.1 hx' with rfl | hx'
    · show (y + 5#64 * c).toNat < _
      rw [hyc]; omega
    · have := h2 x (List.mem_cons_of_mem _ hx')
      omega
theorem carr_val (w : List (BitVec 64)) (hw : w.length = 10) (hx : ∀ x ∈ w, x.toNat < 1152921504606846976) : ∀ n, (∃ q, valL w = valL (carr w n) + 1361129467683753853853498429727072845819 * q) ∧ ∀ x ∈ carr w n, x.toNat < 1152921504606846976 := by
  intro n
  induction n with
  | zero => exact ⟨⟨0, by rfl⟩, hx⟩
  | succ n ih =>
    obtain ⟨⟨q, hq⟩, hb⟩ := ih
    have hl := carr_length w n
    rw [hw] at hl
    obtain ⟨q2, h2⟩ := pass_val (carr w n) hl hb
    exact ⟨⟨q + q2, by rw [carr]; rw [Nat.mul_add]; omega⟩, pass_bound (carr w n) hl hb⟩
end Go.Vm
