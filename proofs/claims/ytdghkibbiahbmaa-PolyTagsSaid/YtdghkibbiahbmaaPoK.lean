/- A part of the proof: laws of a small machine of values, or what one function answers, proved against the model; no conditions beyond those in each theorem. -/
import Derived.Test.YtdghkibbiahbmaaPoB
set_option linter.unusedVariables false
set_option linter.unusedSimpArgs false
set_option linter.unusedSectionVars false
namespace Go.Vm
open Go.Proofs
set_option maxRecDepth 20000
abbrev Pp : Nat := 1361129467683753853853498429727072845819
/-- A piece of the text, a 1 behind it. -/
def partB (t : List (BitVec 8)) (i : Nat) : List (BitVec 8) := (t.drop (16 * i)).take 16 ++ [1#8]
theorem partB_length (t : List (BitVec 8)) (i : Nat) : (partB t i).length ≤ 17 := by unfold partB; rw [List.length_append, List.length_take]; show _ + 1 ≤ 17; omega
def numB (p : List (BitVec 8)) : N3 := (BitVec.ofNat 64 (le (p.take 8)), BitVec.ofNat 64 (le ((p.drop 8).take 8)), BitVec.ofNat 64 (le (p.drop 16)))
theorem le_bound (p : List (BitVec 8)) (k : Nat) (h : p.length ≤ k) : le p < 256 ^ k := Nat.lt_of_lt_of_le (le_lt p) (Nat.pow_le_pow_right (by omega) h)
theorem le_split (p : List (BitVec 8)) (k : Nat) (h : k ≤ p.length) : le p = le (p.take k) + 256 ^ k * le (p.drop k) := by
  calc le p = le (p.take k ++ p.drop k) := by rw [List.take_append_drop]
    _ = _ := by rw [le_append, List.length_take, Nat.min_eq_left h]
theorem le_split' (p : List (BitVec 8)) (k : Nat) : le p = le (p.take k) + 256 ^ k * le (p.drop k) := by
  by_cases h : k ≤ p.length
  · exact le_split p k h
  · rw [List.take_of_length_le (by omega), List.drop_of_length_le (by omega)]; simp [le]
theorem numB_val (p : List (BitVec 8)) (h : p.length ≤ 17) : valN (numB p) = le p ∧ (numB p).2.2.toNat < 256 := by
  have h1 := le_bound (p.take 8) 8 (by rw [List.length_take]; omega)
  have h2 := le_bound ((p.drop 8).take 8) 8 (by rw [List.length_take]; omega)
  have h3 := le_bound (p.drop 16) 1 (by rw [List.length_drop]; omega)
  have s1 := le_split' p 8
  have s2 := le_split' (p.drop 8) 8
  rw [List.drop_drop, show 8 + 8 = 16 from rfl] at s2
  have e8 : (256 : Nat) ^ 8 = 18446744073709551616 := by decide
  rw [e8] at h1 h2 s1 s2
  rw [show (256 : Nat) ^ 1 = 256 from rfl] at h3
  unfold valN numB
  simp only [BitVec.toNat_ofNat]
  omega
def aN (r : BitVec 64 × BitVec 64) (t : List (BitVec 8)) : Nat → N3
  | 0 => (0#64, 0#64, 0#64)
  | i + 1 => timesN (plusN (aN r t i) (numB (partB t i))) r
def longB (p : List (BitVec 8)) : List (BitVec 64) := longTo p (8 * p.length)
def aL (r : List (BitVec 64)) (t : List (BitVec 8)) : Nat → List (BitVec 64)
  | 0 => List.replicate 10 0#64
  | i + 1 => carr (mulTo (carr (sumTo (aL r t i) (longB (partB t i)) 10) 3) r 10) 3
theorem partB_lt (t : List (BitVec 8)) (i : Nat) : le (partB t i) < 2 ^ 130 := by
  unfold partB
  rw [le_append]
  have h := le_bound ((t.drop (16 * i)).take 16) 16 (by rw [List.length_take]; omega)
  have hl : ((t.drop (16 * i)).take 16).length ≤ 16 := by rw [List.length_take]; omega
  have hp : 256 ^ ((t.drop (16 * i)).take 16).length ≤ 256 ^ 16 := Nat.pow_le_pow_right (by omega) hl
  have e : le [1#8] = 1 := rfl
  rw [e]
  have e16 : (256 : Nat) ^ 16 = 340282366920938463463374607431768211456 := by decide
  have e130 : (2 : Nat) ^ 130 = 1361129467683753853853498429727072845824 := by decide
  rw [e16] at h hp
  rw [e130]
  omega
theorem aN_small (r : BitVec 64 × BitVec 64) (t : List (BitVec 8)) (h0 : r.1.toNat < 1152921504606846976) (h1 : r.2.toNat < 1152921504606846976) (i : Nat) : (aN r t i).2.2.toNat < 8 := by
  induction i with
  | zero => exact (by decide : (0#64).toNat < 8)
  | succ i ih =>
    have hn := numB_val (partB t i) (partB_length t i)
    have hp := plusN_val (aN r t i) (numB (partB t i)) (by omega)
    have hh := valN_hi (plusN (aN r t i) (numB (partB t i)))
    have b1 := (aN r t i).1.isLt
    have b2 := (aN r t i).2.1.isLt
    have b3 := (numB (partB t i)).1.isLt
    have b4 := (numB (partB t i)).2.1.isLt
    refine (timesN_val (plusN (aN r t i) (numB (partB t i))) r h0 h1 ?_).2
    rw [hh, hp]
    unfold valN
    omega
theorem aL_small (r : List (BitVec 64)) (hr : small r) (t : List (BitVec 8)) (i : Nat) : small (aL r t i) := by
  induction i with
  | zero => exact ⟨rfl, by simp [aL]⟩
  | succ i ih =>
    have hl := (longTo_le (partB t i) (partB_lt t i)).2
    obtain ⟨_, s2⟩ := sumTo_val _ _ ih hl
    have c1 := (carr_small _ (by rw [sumTo_length]; exact ih.1) s2).2
    have m := (mulTo_val _ r c1 hr).2
    exact (carr_small _ (mulTo_length _ r 10) m).2
theorem acc_same (r : BitVec 64 × BitVec 64) (rl : List (BitVec 64)) (h0 : r.1.toNat < 1152921504606846976) (h1 : r.2.toNat < 1152921504606846976) (hr : small rl) (hv : valL rl = valR r) (t : List (BitVec 8)) (i : Nat) : valN (aN r t i) % Pp = valL (aL rl t i) % Pp := by
  induction i with
  | zero => exact (by decide : valN (0#64, 0#64, 0#64) % Pp = valL (List.replicate 10 0#64) % Pp)
  | succ i ih =>
    have hn := numB_val (partB t i) (partB_length t i)
    have hs := aN_small r t h0 h1 i
    have hp := plusN_val (aN r t i) (numB (partB t i)) (by omega)
    have hh := valN_hi (plusN (aN r t i) (numB (partB t i)))
    have hx : (plusN (aN r t i) (numB (partB t i))).2.2.toNat < 1125899906842624 := by
      have b1 := (aN r t i).1.isLt
      have b2 := (aN r t i).2.1.isLt
      have b3 := (numB (partB t i)).1.isLt
      have b4 := (numB (partB t i)).2.1.isLt
      rw [hh, hp]
      unfold valN
      omega
    obtain ⟨⟨q1, hq1⟩, _⟩ := timesN_val (plusN (aN r t i) (numB (partB t i))) r h0 h1 hx
    have has := aL_small rl hr t i
    have hl := longTo_le (partB t i) (partB_lt t i)
    obtain ⟨s1, s2⟩ := sumTo_val _ _ has hl.2
    obtain ⟨⟨q2, c1⟩, c2⟩ := carr_small _ (by rw [sumTo_length]; exact has.1) s2
    obtain ⟨⟨q3, m1⟩, m2⟩ := mulTo_val _ rl c2 hr
    obtain ⟨⟨q4, d1⟩, _⟩ := carr_small _ (mulTo_length _ rl 10) m2
    show valN (timesN (plusN (aN r t i) (numB (partB t i))) r) % Pp = valL (carr (mulTo (carr (sumTo (aL rl t i) (longTo (partB t i) (8 * (partB t i).length)) 10) 3) rl 10) 3) % Pp
    have e1 : valN (timesN (plusN (aN r t i) (numB (partB t i))) r) % Pp = ((valN (aN r t i) + le (partB t i)) * valR r) % Pp := by
      rw [← hn.1, ← hp, hq1, Nat.add_mul_mod_self_left]
    have e2 : valL (carr (mulTo (carr (sumTo (aL rl t i) (longTo (partB t i) (8 * (partB t i).length)) 10) 3) rl 10) 3) % Pp = (valL (carr (sumTo (aL rl t i) (longTo (partB t i) (8 * (partB t i).length)) 10) 3) * valL rl) % Pp := by
      rw [m1, d1, Nat.add_assoc, ← Nat.mul_add, Nat.add_mul_mod_self_left]
    have e3 : valL (carr (sumTo (aL rl t i) (longTo (partB t i) (8 * (partB t i).length)) 10) 3) % Pp = (valN (aN r t i) + le (partB t i)) % Pp := by
      rw [Nat.add_mod (valN (aN r t i)), ih, ← Nat.add_mod, ← hl.1, ← s1, c1, Nat.add_mul_mod_self_left]
    rw [e1, e2, hv, Nat.mul_mod, ← e3, ← Nat.mul_mod]
/-! The end. -/
theorem leB_add (n : Nat) (j : Nat) : ∀ k, leB n (k + j) = leB n k ++ leB (n / 256 ^ k) j := by
  intro k
  induction k generalizing n with
  | zero => simp [leB]
  | succ k ih => rw [show k + 1 + j = (k + j) + 1 by omega, leB, ih, leB, List.cons_append, Nat.div_div_eq_div_mul, ← pow256]
theorem text_two (a : N3) : leB a.1.toNat 8 ++ leB a.2.1.toNat 8 = leB (valN a) 16 := by
  have h1 := a.1.isLt
  have h2 := a.2.1.isLt
  have e8 : (256 : Nat) ^ 8 = 18446744073709551616 := by decide
  rw [show (16 : Nat) = 8 + 8 from rfl, leB_add, ← leB_mod (valN a) 8, ← leB_mod (valN a / 256 ^ 8) 8, e8]
  have k1 : valN a % 18446744073709551616 = a.1.toNat := by unfold valN; omega
  have k2 : valN a / 18446744073709551616 % 18446744073709551616 = a.2.1.toNat := by unfold valN; omega
  rw [k1, k2]
def keyN (key : List (BitVec 8)) : N3 := (BitVec.ofNat 64 (le ((key.drop 16).take 8)), BitVec.ofNat 64 (le ((key.drop 24).take 8)), 0#64)
theorem keyN_val (key : List (BitVec 8)) (h : key.length = 32) : valN (keyN key) = le (key.drop 16) := by
  have h1 := le_bound ((key.drop 16).take 8) 8 (by rw [List.length_take]; omega)
  have h2 := le_bound ((key.drop 24).take 8) 8 (by rw [List.length_take]; omega)
  have s1 := le_split' (key.drop 16) 8
  rw [List.drop_drop, show 16 + 8 = 24 from rfl] at s1
  have e8 : (256 : Nat) ^ 8 = 18446744073709551616 := by decide
  have ht : (key.drop 24).take 8 = key.drop 24 := List.take_of_length_le (by rw [List.length_drop]; omega)
  rw [e8] at h1 h2 s1
  rw [ht] at h2
  unfold valN keyN
  simp only [BitVec.toNat_ofNat]
  rw [ht]
  rw [show 0 % 2 ^ 64 = 0 from rfl]
  omega
/-- The tag, as a number's bytes. -/
def tagB (key t : List (BitVec 8)) : List (BitVec 8) := leB (valN (aN (rC key) t ((t.length + 15) / 16)) % Pp + le (key.drop 16)) 16
theorem tagB_length (key t : List (BitVec 8)) : (tagB key t).length = 16 := by unfold tagB; rw [leB_length]
theorem tag_code (key t : List (BitVec 8)) (h : key.length = 32) : leB (plusN (leastN (aN (rC key) t ((t.length + 15) / 16))) (keyN key)).1.toNat 8 ++ leB (plusN (leastN (aN (rC key) t ((t.length + 15) / 16))) (keyN key)).2.1.toNat 8 = tagB key t := by
  obtain ⟨_, h0, h1⟩ := rC_val key h
  have hs := aN_small (rC key) t h0 h1 ((t.length + 15) / 16)
  have hl := leastN_val _ (show (aN (rC key) t ((t.length + 15) / 16)).2.2.toNat < 1152921504606846976 by omega)
  have hh := valN_hi (leastN (aN (rC key) t ((t.length + 15) / 16)))
  have hz : (keyN key).2.2.toNat = 0 := rfl
  have hp := plusN_val (leastN (aN (rC key) t ((t.length + 15) / 16))) (keyN key) (by
    rw [hz, hh, hl]
    have := Nat.mod_lt (valN (aN (rC key) t ((t.length + 15) / 16))) (show 0 < Pp by decide)
    omega)
  rw [text_two, hp, hl, keyN_val key h]
  rfl
def passF (c : BitVec 64) (w : List (BitVec 64)) : Nat → List (BitVec 64) × BitVec 64
  | 0 => (w, c)
  | k + 1 => ((passF c w k).1.set k (((passF c w k).1.getD k 0 + (passF c w k).2) % 8192#64), ((passF c w k).1.getD k 0 + (passF c w k).2) / 8192#64)
theorem passF_length (c : BitVec 64) (w : List (BitVec 64)) (k : Nat) : (passF c w k).1.length = w.length := by
  induction k with
  | zero => rfl
  | succ k ih => rw [passF, List.length_set, ih]
theorem passF_eq (c : BitVec 64) (w : List (BitVec 64)) (k : Nat) (hk : k ≤ w.length) : passF c w k = ((passC c (w.take k)).1 ++ w.drop k, (passC c (w.take k)).2) := by
  induction k with
  | zero => rfl
  | succ k ih =>
    have hkl : k < w.length := by omega
    have hl : (passC c (w.take k)).1.length = k := by rw [passC_length, List.length_take]; omega
    have hg : ((passC c (w.take k)).1 ++ w.drop k).getD k 0 = w.getD k 0 := by
      rw [List.getD_eq_getElem?_getD, List.getElem?_append_right (by omega), hl, Nat.sub_self, List.getElem?_drop, Nat.add_zero, ← List.getD_eq_getElem?_getD]
    have ht : w.take (k + 1) = w.take k ++ [w.getD k 0] := by
      rw [List.take_succ_eq_append_getElem hkl, List.getD_eq_getElem?_getD, List.getElem?_eq_getElem hkl]; rfl
    rw [passF, ih (by omega)]
    simp only
    rw [hg, ht, passC_snoc, List.set_append_right _ _ (by omega), hl, Nat.sub_self, List.drop_eq_getElem_cons hkl, List.set_cons_zero]
    simp
/-- Less 2^130 - 5, unless that is below 0. -/
def lessL (a : List (BitVec 64)) : List (BitVec 64) := if 0#64 < (passF 5#64 a 10).2 then (passF 5#64 a 10).1 else a
theorem lessL_val (a : List (BitVec 64)) (ha : small a) : valL (lessL a) = valL a % Pp ∧ small (lessL a) := by
  have he := passF_eq 5#64 a 10 (by rw [ha.1]; omega)
  rw [List.take_of_length_le (by rw [ha.1]; omega), List.drop_of_length_le (by rw [ha.1]; omega), List.append_nil] at he
  obtain ⟨h1, h2⟩ := passC_val a 5#64 (by decide) (fun x hx => by have := ha.2 x hx; omega)
  have hl := passC_length a 5#64
  rw [ha.1] at hl h1
  have hlt := valL_lt _ h2
  have halt := valL_lt _ ha.2
  rw [ha.1] at halt
  rw [hl] at hlt
  have e8 : (8192 : Nat) ^ 10 = 1361129467683753853853498429727072845824 := by decide
  rw [e8] at h1 hlt halt
  rw [show (5#64).toNat = 5 from rfl] at h1
  unfold lessL
  rw [he]
  simp only
  by_cases hc : 0#64 < (passC 5#64 a).2
  · have hc' : 0 < (passC 5#64 a).2.toNat := hc
    rw [if_pos hc]
    have h1' : (passC 5#64 a).2.toNat = 1 := by omega
    rw [h1'] at h1
    refine ⟨?_, hl, h2⟩
    unfold Pp
    rw [Nat.mod_eq_sub_mod (by omega), Nat.mod_eq_of_lt (by omega)]
    omega
  · have hc' : ¬ 0 < (passC 5#64 a).2.toNat := hc
    rw [if_neg hc]
    exact ⟨by unfold Pp; omega, ha⟩
/-- What R.Tag ends with. -/
theorem tag_ref (key t : List (BitVec 8)) (h : key.length = 32) (rl : List (BitVec 64)) (hr : small rl) (hv : valL rl = le (maskB key)) : leB (valL (lessL (aL rl t ((t.length + 15) / 16))) + le (key.drop 16)) 16 = tagB key t := by
  obtain ⟨hk, h0, h1⟩ := rC_val key h
  have hs := acc_same (rC key) rl h0 h1 hr (by rw [hv, hk]) t ((t.length + 15) / 16)
  rw [(lessL_val _ (aL_small rl hr t _)).1, ← hs]
  rfl
end Go.Vm
