/- A part of the proof: laws of a small machine of values, or what one function answers, proved against the model; no conditions beyond those in each theorem. -/
import Derived.Test.YtcilackefhieiaaWin2
set_option linter.unusedVariables false
set_option linter.unusedSimpArgs false
set_option linter.unusedSectionVars false
namespace Go.Vm
open Go.Proofs
theorem bit_one (x : BitVec 64) (k : Nat) : (x >>> k &&& 1#64 = 1#64) ↔ x.getLsbD k = true := by
  have h : (x >>> k &&& 1#64).toNat = if x.getLsbD k then 1 else 0 := by
    rw [BitVec.toNat_and, BitVec.toNat_ushiftRight]
    show (x.toNat >>> k) &&& 1 = _
    rw [Nat.and_one_is_mod, ← BitVec.testBit_toNat]
    have : (x.toNat >>> k) % 2 = if x.toNat.testBit k then 1 else 0 := by
      rw [Nat.testBit_eq_decide_div_mod_eq, Nat.shiftRight_eq_div_pow]
      by_cases h : x.toNat / 2 ^ k % 2 = 1 <;> simp [h]
      omega
    exact this
  constructor
  · intro e
    rw [e] at h
    by_cases hb : x.getLsbD k = true
    · exact hb
    · rw [if_neg hb] at h; simp at h
  · intro hb
    apply BitVec.eq_of_toNat_eq
    rw [h, if_pos hb]; rfl
structure WInv (next : Int) (bits : BitVec 64) (l : List Int) : Prop where
  next_eq : next = maxL l + 1
  all : ∀ x ∈ l, 0 ≤ x ∧ x ≤ 1099511627776
  bit : ∀ k : Nat, k < 64 → (bits.getLsbD k = true ↔ next - 1 - (k : Int) ∈ l)
theorem WInv.bounds {next : Int} {bits : BitVec 64} {l : List Int} (h : WInv next bits l) : 0 ≤ next ∧ next ≤ 1099511627777 := by
  have h1 := maxL_ge l
  have h2 := maxL_le l 1099511627776 (by decide) fun x hx => (h.all x hx).2
  have h3 := h.next_eq
  omega
theorem WInv.nil : WInv 0 0#64 [] := ⟨by decide, fun x h => (by cases h), fun k hk => (by simp)⟩
theorem WInv.chk {next : Int} {bits : BitVec 64} {l : List Int} (h : WInv next bits l) (n : Int) : wchk next bits n = rchk l n := by
  unfold wchk rchk
  by_cases h1 : n < 0 ∨ 1099511627776 < n
  · rw [if_pos h1, if_pos h1]
  · rw [if_neg h1, if_neg h1]
    have hm := maxL_ge l
    have hn := h.next_eq
    by_cases h2 : next - 1 - n < 0
    · have h3 : ¬ (n ∈ l ∨ n + 64 < maxL l + 1) := by
        rintro (h3 | h3)
        · have := hm.2 n h3; omega
        · omega
      rw [if_pos h2, if_neg h3]
    · rw [if_neg h2]
      by_cases h4 : 64 ≤ next - 1 - n
      · rw [if_pos (.inl h4), if_pos (.inr (by omega))]
      · have e : ((next - 1 - n).toNat : Int) = next - 1 - n := by omega
        have h5 := h.bit (next - 1 - n).toNat (by omega)
        rw [e, show next - 1 - (next - 1 - n) = n by omega, ← bit_one] at h5
        by_cases h6 : n ∈ l
        · rw [if_pos (.inr (h5.2 h6)), if_pos (.inl h6)]
        · rw [if_neg (fun x => x.elim h4 fun x => h6 (h5.1 x)), if_neg (fun x => x.elim h6 fun x => by omega)]
theorem WInv.take {next : Int} {bits : BitVec 64} {l : List Int} (h : WInv next bits l) (n : Int) (hc : rchk l n = 0) : WInv (wnext next n) (wbits next bits n) (l ++ [n]) := by
  have hm := maxL_ge l
  have hn := h.next_eq
  have hb := h.bounds
  have h0 : 0 ≤ n ∧ n ≤ 1099511627776 := by
    unfold rchk at hc
    by_cases h1 : n < 0 ∨ 1099511627776 < n
    · rw [if_pos h1] at hc; omega
    · omega
  have h1 : n ∉ l ∧ ¬ n + 64 < maxL l + 1 := by
    unfold rchk at hc
    rw [if_neg (by omega)] at hc
    constructor
    · intro h2; rw [if_pos (.inl h2)] at hc; omega
    · intro h2; rw [if_pos (.inr h2)] at hc; omega
  refine ⟨?_, fun x hx => ?_, fun k hk => ?_⟩
  · rw [maxL_snoc]; unfold wnext mx; split <;> split <;> omega
  · rcases List.mem_append.1 hx with hx | hx
    · exact h.all x hx
    · simp at hx; subst hx; exact h0
  · unfold wbits wnext
    by_cases h2 : next ≤ n
    · rw [if_pos h2, if_pos h2]
      have hone : (1#64 <<< 0).getLsbD k = decide (k = 0) := by
        rw [BitVec.shiftLeft_zero, BitVec.getLsbD_one]; simp
      rw [BitVec.getLsbD_or, hone, Bool.or_eq_true, decide_eq_true_eq, List.mem_append, List.mem_singleton]
      rw [BitVec.getLsbD_shiftLeft]
      simp only [Bool.and_eq_true, decide_eq_true_eq, Bool.not_eq_true', decide_eq_false_iff_not]
      constructor
      · rintro (⟨⟨_, h3⟩, h4⟩ | h3)
        · left
          by_cases h5 : 64 < n + 1 - next
          · rw [if_pos h5] at h3; exact absurd hk h3
          · rw [if_neg h5] at h3 h4
            have h6 := (h.bit _ (by omega)).1 h4
            have e : next - 1 - ((k - (n + 1 - next).toNat : Nat) : Int) = n + 1 - 1 - (k : Int) := by omega
            rw [e] at h6; exact h6
        · right; subst h3; omega
      · rintro (h3 | h3)
        · left
          have h4 := hm.2 _ h3
          have h5 : ¬ 64 < n + 1 - next := by omega
          rw [if_neg h5]
          refine ⟨⟨hk, by omega⟩, (h.bit _ (by omega)).2 ?_⟩
          have e : next - 1 - ((k - (n + 1 - next).toNat : Nat) : Int) = n + 1 - 1 - (k : Int) := by omega
          rw [e]; exact h3
        · right; omega
    · rw [if_neg h2, if_neg h2]
      have hone : (1#64 <<< (next - 1 - n).toNat).getLsbD k = decide (k = (next - 1 - n).toNat) := by
        rw [BitVec.getLsbD_shiftLeft, BitVec.getLsbD_one]
        by_cases e : k = (next - 1 - n).toNat
        · subst e; simp [hk]
        · simp only [e, decide_false, Bool.and_eq_false_imp, Bool.and_eq_true, decide_eq_true_eq, Bool.not_eq_true', decide_eq_false_iff_not]
          intro _
          omega
      rw [BitVec.getLsbD_or, hone, Bool.or_eq_true, decide_eq_true_eq, List.mem_append, List.mem_singleton]
      constructor
      · rintro (h3 | h3)
        · exact .inl ((h.bit k hk).1 h3)
        · right; omega
      · rintro (h3 | h3)
        · exact .inl ((h.bit k hk).2 h3)
        · right; omega
end Go.Vm
