/- A part of the proof: laws of a small machine of values, or what one function answers, proved against the model; no conditions beyond those in each theorem. -/
import Derived.Test.YtdghkibbiahbmaaPoZ
set_option linter.unusedVariables false
set_option linter.unusedSimpArgs false
set_option linter.unusedSectionVars false
namespace Go.Vm
open Go.Proofs
set_option maxRecDepth 20000
theorem le_byte (s : List (BitVec 8)) : ∀ j, (s.getD j 0).toNat = le s / 256 ^ j % 256 := by
  induction s with
  | nil => intro j; simp [le]
  | cons b s ih =>
    intro j
    have hb := b.isLt
    cases j with
    | zero => simp only [List.getD_cons_zero, le, Nat.pow_zero, Nat.div_one]; omega
    | succ j =>
      rw [List.getD_cons_succ, ih, le, pow256, ← Nat.div_div_eq_div_mul, show (b.toNat + 256 * le s) / 256 = le s by omega]
theorem bitC_eq (s : List (BitVec 8)) (i : Nat) : bitC s i = decide (le s / 2 ^ i % 2 = 1) := by
  have hb := le_byte s (i / 8)
  have hp : (2 : Nat) ^ i = 256 ^ (i / 8) * 2 ^ (i % 8) := by
    rw [show (256 : Nat) = 2 ^ 8 from rfl, ← Nat.pow_mul, ← Nat.pow_add]; congr 1; omega
  have hm : ∀ X m : Nat, m < 8 → X % 256 / 2 ^ m % 2 = X / 2 ^ m % 2 := by
    intro X m hm
    match m, hm with
    | 0, _ => simp only [Nat.pow_zero, Nat.div_one]; omega
    | 1, _ => simp only [Nat.reducePow]; omega
    | 2, _ => simp only [Nat.reducePow]; omega
    | 3, _ => simp only [Nat.reducePow]; omega
    | 4, _ => simp only [Nat.reducePow]; omega
    | 5, _ => simp only [Nat.reducePow]; omega
    | 6, _ => simp only [Nat.reducePow]; omega
    | 7, _ => simp only [Nat.reducePow]; omega
  unfold bitC
  apply decide_eq_decide.2
  rw [← BitVec.toNat_inj, BitVec.toNat_umod, BitVec.toNat_ushiftRight, Nat.shiftRight_eq_div_pow, hb, hp, ← Nat.div_div_eq_div_mul]
  show _ % 2 = 1 ↔ _
  rw [hm _ _ (Nat.mod_lt _ (by omega))]
theorem mod_bit (L i : Nat) : L % 2 ^ (i + 1) = L % 2 ^ i + 2 ^ i * (L / 2 ^ i % 2) := by
  rw [Nat.pow_succ, Nat.mod_mul]
theorem piece_le (w : List (BitVec 64)) (j : Nat) (h : j < w.length) : 8192 ^ j * (w.getD j 0).toNat ≤ valL w := by
  have := valL_getD w j 0#64 h
  rw [show (0#64).toNat = 0 from rfl, Nat.mul_zero, Nat.add_zero] at this
  omega
theorem longTo_val (s : List (BitVec 8)) : ∀ i, i ≤ 130 → valL (longTo s i) = le s % 2 ^ i ∧ ∀ x ∈ longTo s i, x.toNat < 8192 := by
  intro i
  induction i with
  | zero => intro _; exact ⟨by simp [longTo, valL, Nat.mod_one], by simp [longTo]⟩
  | succ i ih =>
    intro hi
    obtain ⟨h1, h2⟩ := ih (by omega)
    have hl := longTo_length s i
    have hjl : i / 13 < (longTo s i).length := by omega
    rw [longTo, mod_bit, bitC_eq]
    by_cases hb : le s / 2 ^ i % 2 = 1
    · rw [decide_eq_true hb, if_pos rfl, hb]
      have hp := piece_le (longTo s i) (i / 13) hjl
      have hs := valL_getD (longTo s i) (i / 13) ((longTo s i).getD (i / 13) 0 ||| 1#64 <<< (i % 13)) hjl
      have hlt : le s % 2 ^ i < 2 ^ i := Nat.mod_lt _ (Nat.pow_pos (by omega))
      have he : (2 : Nat) ^ i = 8192 ^ (i / 13) * 2 ^ (i % 13) := by
        rw [show (8192 : Nat) = 2 ^ 13 from rfl, ← Nat.pow_mul, ← Nat.pow_add]; congr 1; omega
      have hx : ((longTo s i).getD (i / 13) 0).toNat < 2 ^ (i % 13) := by
        refine Nat.lt_of_mul_lt_mul_left (a := 8192 ^ (i / 13)) ?_
        rw [← he]; omega
      have hm13 : (2 : Nat) ^ (i % 13) ≤ 2 ^ 12 := Nat.pow_le_pow_right (by omega) (by omega)
      have hor : ((longTo s i).getD (i / 13) 0 ||| 1#64 <<< (i % 13)).toNat = ((longTo s i).getD (i / 13) 0).toNat + 2 ^ (i % 13) := by
        rw [BitVec.toNat_or, BitVec.toNat_shiftLeft, Nat.shiftLeft_eq, show (1#64).toNat = 1 from rfl, Nat.one_mul, Nat.mod_eq_of_lt (by omega : 2 ^ (i % 13) < 2 ^ 64), Nat.or_comm]
        have := Nat.two_pow_add_eq_or_of_lt hx 1
        rw [Nat.mul_one] at this
        rw [← this, Nat.add_comm]
      refine ⟨?_, set_all h2 (by rw [hor]; omega)⟩
      rw [hor, Nat.mul_add, ← he] at hs
      omega
    · rw [decide_eq_false hb, if_neg (by decide)]
      refine ⟨?_, h2⟩
      have : le s / 2 ^ i % 2 = 0 := by omega
      rw [this, Nat.mul_zero, Nat.add_zero]; exact h1
theorem longTo_more (s : List (BitVec 8)) (hs : le s < 2 ^ 130) : ∀ k, longTo s (130 + k) = longTo s 130 := by
  intro k
  induction k with
  | zero => rfl
  | succ k ih =>
    have hz : le s / 2 ^ (130 + k) = 0 := Nat.div_eq_of_lt (Nat.lt_of_lt_of_le hs (Nat.pow_le_pow_right (by omega) (by omega)))
    rw [show 130 + (k + 1) = (130 + k) + 1 from rfl, longTo, bitC_eq, hz, ih]
    rfl
theorem longTo_le (s : List (BitVec 8)) (hs : le s < 2 ^ 130) : valL (longTo s (8 * s.length)) = le s ∧ small (longTo s (8 * s.length)) := by
  by_cases h : 8 * s.length ≤ 130
  · obtain ⟨h1, h2⟩ := longTo_val s (8 * s.length) h
    refine ⟨?_, longTo_length _ _, h2⟩
    rw [h1, Nat.mod_eq_of_lt]
    have := le_lt s
    rwa [show (256 : Nat) = 2 ^ 8 from rfl, ← Nat.pow_mul] at this
  · obtain ⟨h1, h2⟩ := longTo_val s 130 (by omega)
    rw [show 8 * s.length = 130 + (8 * s.length - 130) by omega, longTo_more s hs]
    exact ⟨by rw [h1, Nat.mod_eq_of_lt hs], longTo_length _ _, h2⟩
theorem longOf_ok (s : List (BitVec 8)) (hl : s.length ≤ 1000) (hs : le s < 2 ^ 130) : PureFn Try.prog 39 [.str s] (.agg ((longTo s (8 * s.length)).map .u64)) := by
  refine longOf_spec s hl fun i _ hb => ?_
  rw [bitC_eq] at hb
  have hb2 := of_decide_eq_true hb
  refine Nat.lt_of_not_le fun h => ?_
  have hz : le s / 2 ^ i = 0 := Nat.div_eq_of_lt (Nat.lt_of_lt_of_le hs (Nat.pow_le_pow_right (by omega) h))
  rw [hz] at hb2
  simp at hb2
/-! The mask. -/
theorem le_and : ∀ s t : List (BitVec 8), s.length = t.length → le (List.zipWith (· &&& ·) s t) = le s &&& le t
  | [], [], _ => by simp [le]
  | [], y :: t, h => by simp at h
  | x :: s, [], h => by simp at h
  | x :: s, y :: t, h => by
    have ih := le_and s t (by simpa using h)
    have hx := x.isLt
    have hy := y.isLt
    have e1 : ((x.toNat + 256 * le s) &&& (y.toNat + 256 * le t)) % 2 ^ 8 = x.toNat &&& y.toNat := by
      rw [Nat.and_mod_two_pow, show (x.toNat + 256 * le s) % 2 ^ 8 = x.toNat by omega, show (y.toNat + 256 * le t) % 2 ^ 8 = y.toNat by omega]
    have e2 : ((x.toNat + 256 * le s) &&& (y.toNat + 256 * le t)) / 2 ^ 8 = le s &&& le t := by
      rw [Nat.and_div_two_pow, show (x.toNat + 256 * le s) / 2 ^ 8 = le s by omega, show (y.toNat + 256 * le t) / 2 ^ 8 = le t by omega]
    rw [List.zipWith_cons_cons, le, ih, BitVec.toNat_and, le, le]
    omega
def mask16 : List (BitVec 8) := [255#8, 255#8, 255#8, 15#8, 252#8, 255#8, 255#8, 15#8, 252#8, 255#8, 255#8, 15#8, 252#8, 255#8, 255#8, 15#8]
def maskB (key : List (BitVec 8)) : List (BitVec 8) := List.zipWith (· &&& ·) (key.take 16) mask16
theorem le_append (s t : List (BitVec 8)) : le (s ++ t) = le s + 256 ^ s.length * le t := by
  induction s with
  | nil => simp [le]
  | cons a s ih => rw [List.cons_append, le, ih, le, List.length_cons, pow256, Nat.mul_add, Nat.mul_assoc]; omega
def rC (key : List (BitVec 8)) : BitVec 64 × BitVec 64 := (BitVec.ofNat 64 (le (key.take 8)) &&& 1152921487695413247#64, BitVec.ofNat 64 (le ((key.drop 8).take 8)) &&& 1152921487695413244#64)
theorem rC_val (key : List (BitVec 8)) (h : key.length = 32) : valR (rC key) = le (maskB key) ∧ (rC key).1.toNat < 1152921504606846976 ∧ (rC key).2.toNat < 1152921504606846976 := by
  have t1 : (key.take 8).length = 8 := by rw [List.length_take]; omega
  have t2 : ((key.drop 8).take 8).length = 8 := by rw [List.length_take, List.length_drop]; omega
  have l1 := le_lt (key.take 8)
  have l2 := le_lt ((key.drop 8).take 8)
  rw [t1] at l1
  rw [t2] at l2
  have hk : key.take 16 = key.take 8 ++ (key.drop 8).take 8 := by rw [← List.take_add]
  have hm : mask16 = mask16.take 8 ++ mask16.drop 8 := rfl
  have a1 := le_and (key.take 8) (mask16.take 8) (by rw [t1]; rfl)
  have a2 := le_and ((key.drop 8).take 8) (mask16.drop 8) (by rw [t2]; rfl)
  have k1 : le (mask16.take 8) = 1152921487695413247 := by decide
  have k2 : le (mask16.drop 8) = 1152921487695413244 := by decide
  have e1 : (rC key).1.toNat = le (key.take 8) &&& 1152921487695413247 := by
    unfold rC
    rw [BitVec.toNat_and, BitVec.toNat_ofNat, Nat.mod_eq_of_lt (by omega : le (key.take 8) < 2 ^ 64)]; rfl
  have e2 : (rC key).2.toNat = le ((key.drop 8).take 8) &&& 1152921487695413244 := by
    unfold rC
    rw [BitVec.toNat_and, BitVec.toNat_ofNat, Nat.mod_eq_of_lt (by omega : le ((key.drop 8).take 8) < 2 ^ 64)]; rfl
  rw [k1] at a1
  rw [k2] at a2
  refine ⟨?_, ?_, ?_⟩
  · unfold valR maskB
    rw [hk, hm, List.zipWith_append (by rw [t1]; rfl), le_append, e1, e2, ← a1, ← a2, List.length_zipWith, t1]
    rfl
  · rw [e1]; exact Nat.lt_of_le_of_lt Nat.and_le_right (by decide)
  · rw [e2]; exact Nat.lt_of_le_of_lt Nat.and_le_right (by decide)
end Go.Vm
