/- A part of the proof: laws of a small machine of values, or what one function answers, proved against the model; no conditions beyond those in each theorem. -/
import Derived.Test.YtdghkibbiahbmaaGhM
import Derived.Test.YtdghkibbiahbmaaXor
set_option linter.unusedVariables false
set_option linter.unusedSimpArgs false
set_option linter.unusedSectionVars false
namespace Go.Vm
abbrev Pr := BitVec 64 × BitVec 64
def textP (p : Pr) : List (BitVec 8) := beB p.1.toNat 8 ++ beB p.2.toNat 8
theorem textP_length (p : Pr) : (textP p).length = 16 := by unfold textP; rw [List.length_append, beB_length, beB_length]
theorem pair_ext (p q : Pr) (h : ∀ k, k < 128 → bitP p k = bitP q k) : p = q := by
  apply Prod.ext
  · apply BitVec.eq_of_getLsbD_eq
    intro i hi
    have := h (63 - i) (by omega)
    unfold bitP at this
    rw [if_pos (by omega), if_pos (by omega), show 63 - (63 - i) = i by omega] at this
    exact this
  · apply BitVec.eq_of_getLsbD_eq
    intro i hi
    have := h (127 - i) (by omega)
    unfold bitP at this
    rw [if_neg (by omega), if_pos (by omega), if_neg (by omega), if_pos (by omega), show 127 - (127 - i) = i by omega] at this
    exact this
theorem rdP_bit (s : List (BitVec 8)) (h : s.length = 16) (k : Nat) (hk : k < 128) : bitP (rdP s) k = bitS s k := (read_bit s h k hk).symm
theorem xorB_bit (a b : List (BitVec 8)) (h1 : a.length = 16) (h2 : b.length = 16) (k : Nat) (hk : k < 128) : bitS (xorB a b) k = (bitS a k ^^ bitS b k) := by
  unfold bitS
  rw [xorB_getD a b (k / 8) (by omega) (by omega), BitVec.getLsbD_xor]
theorem rdP_xor (p : Pr) (c : List (BitVec 8)) (h : c.length = 16) : rdP (xorB (textP p) c) = (p.1 ^^^ (rdP c).1, p.2 ^^^ (rdP c).2) := by
  have hl := textP_length p
  apply pair_ext
  intro k hk
  rw [rdP_bit _ (by rw [xorB_length, hl, h]; rfl) k hk, xorB_bit _ _ hl h k hk, bitP_xor p (rdP c) k, rdP_bit c h k hk]
  congr 1
  exact text_bit p k hk
def stepG (h p : Pr) (c : List (BitVec 8)) : Pr := zT (p.1 ^^^ (rdP c).1, p.2 ^^^ (rdP c).2) h 128
theorem ghB_step (h : List (BitVec 8)) (p : Pr) (c : List (BitVec 8)) (hc : c.length = 16) : ghB (xorB (textP p) c) h = textP (stepG (rdP h) p c) := by
  unfold ghB stepG textP
  have := rdP_xor p c hc
  unfold textP at this
  rw [this]
def padB (s : List (BitVec 8)) : List (BitVec 8) := s ++ List.replicate (16 - s.length) 0
theorem padB_length (s : List (BitVec 8)) (h : s.length ≤ 16) : (padB s).length = 16 := by unfold padB; rw [List.length_append, List.length_replicate]; omega
theorem padB_full (s : List (BitVec 8)) (h : s.length = 16) : padB s = s := by unfold padB; rw [h]; simp
def chunk (t : List (BitVec 8)) (i : Nat) : List (BitVec 8) := padB ((t.drop (16 * i)).take 16)
def accG (h p : Pr) (t : List (BitVec 8)) : Nat → Pr
  | 0 => p
  | i + 1 => stepG h (accG h p t i) (chunk t i)
theorem accG_congr (h p : Pr) (t u : List (BitVec 8)) (n : Nat) (e : ∀ i, i < n → chunk t i = chunk u i) : accG h p t n = accG h p u n := by
  induction n with
  | zero => rfl
  | succ n ih => rw [accG, accG, ih (fun i hi => e i (by omega)), e n (by omega)]
theorem accG_append (h p : Pr) (a b : List (BitVec 8)) (n : Nat) (hn : a.length = 16 * n) : ∀ i, accG h p (a ++ b) (n + i) = accG h (accG h p a n) b i := by
  intro i
  induction i with
  | zero =>
    refine accG_congr h p _ _ n fun i hi => ?_
    unfold chunk
    rw [List.drop_append_of_le_length (by omega), List.take_append_of_le_length (by rw [List.length_drop]; omega)]
  | succ i ih =>
    rw [← Nat.add_assoc, accG, ih, accG]
    congr 1
    unfold chunk
    rw [List.drop_append, List.drop_of_length_le (by omega), List.nil_append, show 16 * (n + i) - a.length = 16 * i by omega]
/-- Filled up with naught to a multiple of 16. -/
def fillB (s : List (BitVec 8)) : List (BitVec 8) := s ++ List.replicate ((16 - s.length % 16) % 16) 0
theorem fillB_length (s : List (BitVec 8)) : (fillB s).length = 16 * ((s.length + 15) / 16) := by unfold fillB; rw [List.length_append, List.length_replicate]; omega
theorem accG_fill (h p : Pr) (s : List (BitVec 8)) : accG h p (fillB s) ((s.length + 15) / 16) = accG h p s ((s.length + 15) / 16) := by
  refine accG_congr h p _ _ _ fun i hi => ?_
  unfold chunk fillB
  by_cases hf : 16 * i + 16 ≤ s.length
  · rw [List.drop_append_of_le_length (by omega), List.take_append_of_le_length (by rw [List.length_drop]; omega)]
  · have hd : (s.drop (16 * i)).length = s.length - 16 * i := List.length_drop
    rw [List.drop_append_of_le_length (by omega), List.take_of_length_le (l := s.drop (16 * i)) (by omega), List.take_of_length_le (by rw [List.length_append, List.length_replicate]; omega)]
    rw [padB_full (s.drop (16 * i) ++ _) (by rw [List.length_append, List.length_replicate]; omega)]
    unfold padB
    rw [hd, show (16 - s.length % 16) % 16 = 16 - (s.length - 16 * i) by omega]
end Go.Vm
