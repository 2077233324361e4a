/- A part of the proof: laws of a small machine of values, or what one function answers, proved against the model; no conditions beyond those in each theorem. -/
import Derived.Test.YtdghkibbiahbmaaPoK
set_option linter.unusedVariables false
set_option linter.unusedSimpArgs false
set_option linter.unusedSectionVars false
namespace Go.Vm
open Go.Proofs
set_option maxRecDepth 20000
theorem valL_split (l : List (BitVec 64)) : ∀ k, valL l = valL (l.take k) + 8192 ^ k * valL (l.drop k) := by
  induction l with
  | nil => intro k; simp [valL]
  | cons x l ih =>
    intro k
    cases k with
    | zero => simp [valL]
    | succ k =>
      rw [List.take_succ_cons, List.drop_succ_cons]
      show x.toNat + 8192 * valL l = x.toNat + 8192 * valL (l.take k) + _
      rw [ih k, Nat.pow_succ, Nat.mul_comm (8192 ^ k) 8192, Nat.mul_assoc]
      omega
def carN (f n : List (BitVec 64)) (i : Nat) : Nat := (valL (f.take i) + valL (n.take i)) / 8192 ^ i
theorem take_lt (f : List (BitVec 64)) (hf : small f) (i : Nat) (hi : i ≤ 10) : valL (f.take i) < 8192 ^ i := by
  have := valL_lt (f.take i) (fun x hx => hf.2 x (List.mem_of_mem_take hx))
  rwa [List.length_take, hf.1, Nat.min_eq_left hi] at this
theorem carN_le (f n : List (BitVec 64)) (hf : small f) (hn : small n) (i : Nat) (hi : i ≤ 10) : carN f n i ≤ 1 := by
  have h1 := take_lt f hf i hi
  have h2 := take_lt n hn i hi
  have : carN f n i < 2 := Nat.div_lt_of_lt_mul (by omega)
  omega
theorem sum_step (f n : List (BitVec 64)) (hf : small f) (hn : small n) (i : Nat) (hi : i < 10) :
    carN f n (i + 1) = ((f.getD i 0).toNat + (n.getD i 0).toNat + carN f n i) / 8192 ∧
    (valL f + valL n) % 8192 ^ (i + 1) = (valL f + valL n) % 8192 ^ i + 8192 ^ i * (((f.getD i 0).toNat + (n.getD i 0).toNat + carN f n i) % 8192) := by
  have a1 := valL_take f i (by rw [hf.1]; exact hi)
  have a2 := valL_take n i (by rw [hn.1]; exact hi)
  have s1 := valL_split f (i + 1)
  have s2 := valL_split n (i + 1)
  have hpos : 0 < 8192 ^ i := Nat.pow_pos (by omega)
  have hA : valL (f.take (i + 1)) + valL (n.take (i + 1)) = (valL (f.take i) + valL (n.take i)) + 8192 ^ i * ((f.getD i 0).toNat + (n.getD i 0).toNat) := by rw [a1, a2, Nat.mul_add]; omega
  have hX : (valL (f.take (i + 1)) + valL (n.take (i + 1))) / 8192 ^ i = (f.getD i 0).toNat + (n.getD i 0).toNat + carN f n i := by
    rw [hA, Nat.add_mul_div_left _ _ hpos]; unfold carN; omega
  have hS : valL f + valL n = (valL (f.take (i + 1)) + valL (n.take (i + 1))) + 8192 ^ (i + 1) * (valL (f.drop (i + 1)) + valL (n.drop (i + 1))) := by rw [Nat.mul_add]; omega
  refine ⟨?_, ?_⟩
  · rw [← hX, Nat.div_div_eq_div_mul, ← Nat.pow_succ]; rfl
  · have e1 : (valL f + valL n) % 8192 ^ (i + 1) = (valL (f.take (i + 1)) + valL (n.take (i + 1))) % 8192 ^ (i + 1) := by rw [hS, Nat.add_mul_mod_self_left]
    have e2 : (valL f + valL n) % 8192 ^ i = (valL (f.take (i + 1)) + valL (n.take (i + 1))) % 8192 ^ i := by rw [hS, Nat.pow_succ, Nat.mul_assoc, Nat.add_mul_mod_self_left]
    rw [e1, e2, Nat.pow_succ, Nat.mod_mul, hX]
/-- What a round carries on, and what it sets in. -/
theorem out_step (f n : List (BitVec 64)) (hf : small f) (hn : small n) (i : Nat) (hi : i < 10) :
    (f.getD i 0 + n.getD i 0 + BitVec.ofNat 64 (carN f n i)) / 8192#64 = BitVec.ofNat 64 (carN f n (i + 1)) ∧
    BitVec.ofNat 64 ((valL f + valL n) % 8192 ^ i / 256 ^ (13 * i / 8)) ||| ((f.getD i 0 + n.getD i 0 + BitVec.ofNat 64 (carN f n i)) % 8192#64) <<< (13 * i % 8) = BitVec.ofNat 64 ((valL f + valL n) % 8192 ^ (i + 1) / 256 ^ (13 * i / 8)) := by
  obtain ⟨h1, h2⟩ := sum_step f n hf hn i hi
  have hc := carN_le f n hf hn i (by omega)
  have g1 := hf.2 _ (getD_mem64 (l := f) (i := i) (by rw [hf.1]; exact hi))
  have g2 := hn.2 _ (getD_mem64 (l := n) (i := i) (by rw [hn.1]; exact hi))
  have hx : (f.getD i 0 + n.getD i 0 + BitVec.ofNat 64 (carN f n i)).toNat = (f.getD i 0).toNat + (n.getD i 0).toNat + carN f n i := by
    rw [BitVec.toNat_add, BitVec.toNat_add, BitVec.toNat_ofNat]; omega
  refine ⟨?_, ?_⟩
  · apply BitVec.eq_of_toNat_eq
    rw [BitVec.toNat_udiv, hx, h1, show (8192#64).toNat = 8192 from rfl, BitVec.toNat_ofNat]; omega
  · have hd : ((f.getD i 0 + n.getD i 0 + BitVec.ofNat 64 (carN f n i)) % 8192#64).toNat = ((f.getD i 0).toNat + (n.getD i 0).toNat + carN f n i) % 8192 := by
      rw [BitVec.toNat_umod, hx]; rfl
    generalize hdd : ((f.getD i 0).toNat + (n.getD i 0).toNat + carN f n i) % 8192 = d at *
    have hdl : d < 8192 := by rw [← hdd]; exact Nat.mod_lt _ (by omega)
    generalize (f.getD i 0 + n.getD i 0 + BitVec.ofNat 64 (carN f n i)) % 8192#64 = D at *
    have hp : (8192 : Nat) ^ i = 256 ^ (13 * i / 8) * 2 ^ (13 * i % 8) := by
      rw [show (8192 : Nat) = 2 ^ 13 from rfl, show (256 : Nat) = 2 ^ 8 from rfl, ← Nat.pow_mul, ← Nat.pow_mul, ← Nat.pow_add]; congr 1; omega
    have hpos : 0 < 256 ^ (13 * i / 8) := Nat.pow_pos (by omega)
    have hY : (valL f + valL n) % 8192 ^ (i + 1) / 256 ^ (13 * i / 8) = (valL f + valL n) % 8192 ^ i / 256 ^ (13 * i / 8) + 2 ^ (13 * i % 8) * d := by
      rw [h2, hp, Nat.mul_assoc, Nat.add_mul_div_left _ _ hpos]
    have hB : (valL f + valL n) % 8192 ^ i / 256 ^ (13 * i / 8) < 2 ^ (13 * i % 8) := by
      apply Nat.div_lt_of_lt_mul
      rw [← hp]; exact Nat.mod_lt _ (Nat.pow_pos (by omega))
    rw [hY]
    generalize (valL f + valL n) % 8192 ^ i / 256 ^ (13 * i / 8) = B at *
    have hm : (2 : Nat) ^ (13 * i % 8) ≤ 2 ^ 7 := Nat.pow_le_pow_right (by omega) (by omega)
    have hmd : 2 ^ (13 * i % 8) * d ≤ 2 ^ 7 * 8191 := Nat.mul_le_mul hm (by omega)
    apply BitVec.eq_of_toNat_eq
    rw [BitVec.toNat_or, BitVec.toNat_shiftLeft, BitVec.toNat_ofNat, BitVec.toNat_ofNat, hd, Nat.shiftLeft_eq, Nat.mul_comm d, Nat.mod_eq_of_lt (by omega : B < 2 ^ 64), Nat.mod_eq_of_lt (by omega : 2 ^ (13 * i % 8) * d < 2 ^ 64), Nat.mod_eq_of_lt (by omega : B + 2 ^ (13 * i % 8) * d < 2 ^ 64),
      Nat.or_comm, ← Nat.two_pow_add_eq_or_of_lt hB, Nat.add_comm]
theorem leB_snoc (n k : Nat) : leB n (k + 1) = leB n k ++ [BitVec.ofNat 8 (n / 256 ^ k)] := by rw [leB_add]; rfl
/-- The byte that is taken next. -/
theorem out_byte (S i t : Nat) (h : 8 * t + 8 ≤ 13 * (i + 1)) : BitVec.ofNat 8 (S % 8192 ^ (i + 1) / 256 ^ t) = BitVec.ofNat 8 (S / 256 ^ t) := by
  have hp : (8192 : Nat) ^ (i + 1) = 256 ^ t * (256 * 2 ^ (13 * (i + 1) - 8 * t - 8)) := by
    rw [show (8192 : Nat) = 2 ^ 13 from rfl, show (256 : Nat) = 2 ^ 8 from rfl, ← Nat.pow_mul, ← Nat.pow_mul, ← Nat.pow_add, ← Nat.pow_add]; congr 1; omega
  apply BitVec.eq_of_toNat_eq
  rw [BitVec.toNat_ofNat, BitVec.toNat_ofNat, hp, Nat.mod_mul_right_div_self]
  exact Nat.mod_mul_right_mod _ 256 _
theorem z_lt (S i t : Nat) (h : 8 * t ≤ 13 * i) : S % 8192 ^ i / 256 ^ t < 2 ^ (13 * i - 8 * t) := by
  apply Nat.div_lt_of_lt_mul
  have hp : (8192 : Nat) ^ i = 256 ^ t * 2 ^ (13 * i - 8 * t) := by
    rw [show (8192 : Nat) = 2 ^ 13 from rfl, show (256 : Nat) = 2 ^ 8 from rfl, ← Nat.pow_mul, ← Nat.pow_mul, ← Nat.pow_add]; congr 1; omega
  rw [← hp]; exact Nat.mod_lt _ (Nat.pow_pos (by omega))
theorem z_div (Z : Nat) (h : Z < 18446744073709551616) : BitVec.ofNat 64 Z / 256#64 = BitVec.ofNat 64 (Z / 256) := by
  apply BitVec.eq_of_toNat_eq
  rw [BitVec.toNat_udiv, show (256#64).toNat = 256 from rfl, BitVec.toNat_ofNat, BitVec.toNat_ofNat]; omega
theorem z_byte (Z : Nat) : BitVec.ofInt 8 (w64 ((BitVec.ofNat 64 Z % 256#64).toNat : Int)) = BitVec.ofNat 8 Z := by
  rw [byte_rem]
  apply BitVec.eq_of_toNat_eq
  rw [BitVec.toNat_setWidth, BitVec.toNat_ofNat, BitVec.toNat_ofNat]; omega
theorem z_next (S i t : Nat) (h1 : 8 * t ≤ 13 * i) (h2 : 13 * i - 8 * t ≤ 20) : BitVec.ofNat 64 (S % 8192 ^ i / 256 ^ t) / 256#64 = BitVec.ofNat 64 (S % 8192 ^ i / 256 ^ (t + 1)) := by
  have := z_lt S i t h1
  have hp : (2 : Nat) ^ (13 * i - 8 * t) ≤ 2 ^ 20 := Nat.pow_le_pow_right (by omega) h2
  rw [z_div _ (by omega), Nat.div_div_eq_div_mul, ← Nat.pow_succ]
end Go.Vm
