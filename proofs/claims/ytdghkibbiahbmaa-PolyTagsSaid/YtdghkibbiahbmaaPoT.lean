/- A part of the proof: laws of a small machine of values, or what one function answers, proved against the model; no conditions beyond those in each theorem. -/
import Derived.Test.YtdghkibbiahbmaaPoS
set_option linter.unusedVariables false
set_option linter.unusedSimpArgs false
set_option linter.unusedSectionVars false
namespace Go.Vm
open Go.Proofs
set_option maxRecDepth 20000
/-- A product set in at the place j of five words. -/
def putM (w : List (BitVec 64)) (j : Nat) (x y : BitVec 64) : List (BitVec 64) :=
  let c1 := cry (w.getD j 0) (x * y) 0#64
  let w1 := w.set j (w.getD j 0 + x * y + 0#64)
  let c2 := cry (w1.getD (j + 1) 0) (hiW x y) c1
  let w2 := w1.set (j + 1) (w1.getD (j + 1) 0 + hiW x y + c1)
  if j + 2 < 5 then w2.set (j + 2) (w2.getD (j + 2) 0 + c2) else w2
theorem putM_length (w : List (BitVec 64)) (j : Nat) (x y : BitVec 64) : (putM w j x y).length = w.length := by
  unfold putM
  simp only
  split <;> simp
def W5 (a b c d e : BitVec 64) : Nat := a.toNat + 18446744073709551616 * b.toNat + 340282366920938463463374607431768211456 * c.toNat + 6277101735386680763835789423207666416102355444464034512896 * d.toNat + 115792089237316195423570985008687907853269984665640564039457584007913129639936 * e.toNat
theorem prod_lo (x y : BitVec 64) : (x * y).toNat + 18446744073709551616 * (hiW x y).toNat = x.toNat * y.toNat := by
  have hx := x.isLt
  have hy := y.isLt
  have hlt : x.toNat * y.toNat < 18446744073709551616 * 18446744073709551616 := Nat.mul_lt_mul'' (by omega) (by omega)
  have k1 : (hiW x y).toNat = x.toNat * y.toNat / 18446744073709551616 := by
    unfold hiW
    rw [BitVec.toNat_ofNat]
    exact Nat.mod_eq_of_lt (Nat.div_lt_of_lt_mul (by omega))
  rw [BitVec.toNat_mul, k1]
  generalize x.toNat * y.toNat = p
  omega
theorem cry_eq0 (x y : BitVec 64) : (x + y + 0#64).toNat + 18446744073709551616 * (cry x y 0#64).toNat = x.toNat + y.toNat := cry_eq x y 0#64 (by decide)
theorem add_small (x c : BitVec 64) (h : x.toNat + c.toNat < 18446744073709551616) : (x + c).toNat = x.toNat + c.toNat := by rw [BitVec.toNat_add]; omega
theorem putM0 (a b c d e x y : BitVec 64) (h : c.toNat < 100) : ∃ a' b' c' : BitVec 64, putM [a, b, c, d, e] 0 x y = [a', b', c', d, e] ∧ c'.toNat ≤ c.toNat + 1 ∧ W5 a' b' c' d e = W5 a b c d e + x.toNat * y.toNat := by
  have p := prod_lo x y
  have q1 := cry_eq0 a (x * y)
  have l1 := cry_le a (x * y) 0#64 (by decide)
  have q2 := cry_eq b (hiW x y) _ l1
  have l2 := cry_le b (hiW x y) _ l1
  have q3 := add_small c (cry b (hiW x y) (cry a (x * y) 0#64)) (by omega)
  refine ⟨a + x * y + 0#64, b + hiW x y + cry a (x * y) 0#64, c + cry b (hiW x y) (cry a (x * y) 0#64), rfl, by omega, ?_⟩
  unfold W5; omega
theorem putM1 (a b c d e x y : BitVec 64) (h : d.toNat < 100) : ∃ a' b' c' : BitVec 64, putM [e, a, b, d, c] 1 x y = [e, a', b', c', c] ∧ c'.toNat ≤ d.toNat + 1 ∧ W5 e a' b' c' c = W5 e a b d c + 18446744073709551616 * (x.toNat * y.toNat) := by
  have p := prod_lo x y
  have q1 := cry_eq0 a (x * y)
  have l1 := cry_le a (x * y) 0#64 (by decide)
  have q2 := cry_eq b (hiW x y) _ l1
  have l2 := cry_le b (hiW x y) _ l1
  have q3 := add_small d (cry b (hiW x y) (cry a (x * y) 0#64)) (by omega)
  refine ⟨a + x * y + 0#64, b + hiW x y + cry a (x * y) 0#64, d + cry b (hiW x y) (cry a (x * y) 0#64), rfl, by omega, ?_⟩
  unfold W5; omega
theorem putM2 (a b c d e x y : BitVec 64) (h : e.toNat < 100) : ∃ a' b' c' : BitVec 64, putM [a, b, c, d, e] 2 x y = [a, b, a', b', c'] ∧ c'.toNat ≤ e.toNat + 1 ∧ W5 a b a' b' c' = W5 a b c d e + 340282366920938463463374607431768211456 * (x.toNat * y.toNat) := by
  have p := prod_lo x y
  have q1 := cry_eq0 c (x * y)
  have l1 := cry_le c (x * y) 0#64 (by decide)
  have q2 := cry_eq d (hiW x y) _ l1
  have l2 := cry_le d (hiW x y) _ l1
  have q3 := add_small e (cry d (hiW x y) (cry c (x * y) 0#64)) (by omega)
  refine ⟨c + x * y + 0#64, d + hiW x y + cry c (x * y) 0#64, e + cry d (hiW x y) (cry c (x * y) 0#64), rfl, by omega, ?_⟩
  unfold W5; omega
theorem putM3 (a b c d e x y : BitVec 64) (h : W5 a b c d e + 6277101735386680763835789423207666416102355444464034512896 * (x.toNat * y.toNat) < 2135987035920910082395021706169552114602704522356652769947041607822219725780640550022962086936576) : ∃ a' b' : BitVec 64, putM [a, b, c, d, e] 3 x y = [a, b, c, a', b'] ∧ W5 a b c a' b' = W5 a b c d e + 6277101735386680763835789423207666416102355444464034512896 * (x.toNat * y.toNat) := by
  have p := prod_lo x y
  have q1 := cry_eq0 d (x * y)
  have l1 := cry_le d (x * y) 0#64 (by decide)
  have q2 := cry_eq e (hiW x y) _ l1
  refine ⟨d + x * y + 0#64, e + hiW x y + cry d (x * y) 0#64, rfl, ?_⟩
  unfold W5 at *; omega
/-- All products of three words by two: row by row. -/
def rowT (n : N3) (r : BitVec 64 × BitVec 64) (w : List (BitVec 64)) (i : Nat) : Nat → List (BitVec 64)
  | 0 => w
  | k + 1 => putM (rowT n r w i k) (i + k) ([n.1, n.2.1, n.2.2].getD i 0) ([r.1, r.2].getD k 0)
def allT (n : N3) (r : BitVec 64 × BitVec 64) : Nat → List (BitVec 64)
  | 0 => [0#64, 0#64, 0#64, 0#64, 0#64]
  | i + 1 => rowT n r (allT n r i) i 2
theorem rowT_length (n : N3) (r : BitVec 64 × BitVec 64) (w : List (BitVec 64)) (i k : Nat) : (rowT n r w i k).length = w.length := by
  induction k with
  | zero => rfl
  | succ k ih => rw [rowT, putM_length, ih]
theorem allT_length (n : N3) (r : BitVec 64 × BitVec 64) (i : Nat) : (allT n r i).length = 5 := by
  induction i with
  | zero => rfl
  | succ i ih => rw [allT, rowT_length, ih]
def valR (r : BitVec 64 × BitVec 64) : Nat := r.1.toNat + 18446744073709551616 * r.2.toNat
theorem six (n0 n1 n2 r0 r1 : Nat) : n0 * r0 + 18446744073709551616 * (n0 * r1) + 18446744073709551616 * (n1 * r0) + 340282366920938463463374607431768211456 * (n1 * r1) + 340282366920938463463374607431768211456 * (n2 * r0) + 6277101735386680763835789423207666416102355444464034512896 * (n2 * r1) = (n0 + 18446744073709551616 * n1 + 340282366920938463463374607431768211456 * n2) * (r0 + 18446744073709551616 * r1) := by
  grind
theorem allT_val (n : N3) (r : BitVec 64 × BitVec 64) (h0 : r.1.toNat < 1152921504606846976) (h1 : r.2.toNat < 1152921504606846976) (h2 : n.2.2.toNat < 1125899906842624) :
    ∃ a b c d e : BitVec 64, allT n r 3 = [a, b, c, d, e] ∧ W5 a b c d e = valN n * valR r := by
  obtain ⟨n0, n1, n2⟩ := n
  obtain ⟨r0, r1⟩ := r
  have hn0 := n0.isLt
  have hn1 := n1.isLt
  simp only at h0 h1 h2
  have p00 : n0.toNat * r0.toNat ≤ 18446744073709551616 * 1152921504606846976 := Nat.mul_le_mul (by omega) (by omega)
  have p01 : n0.toNat * r1.toNat ≤ 18446744073709551616 * 1152921504606846976 := Nat.mul_le_mul (by omega) (by omega)
  have p10 : n1.toNat * r0.toNat ≤ 18446744073709551616 * 1152921504606846976 := Nat.mul_le_mul (by omega) (by omega)
  have p11 : n1.toNat * r1.toNat ≤ 18446744073709551616 * 1152921504606846976 := Nat.mul_le_mul (by omega) (by omega)
  have p20 : n2.toNat * r0.toNat ≤ 1125899906842624 * 1152921504606846976 := Nat.mul_le_mul (by omega) (by omega)
  have p21 : n2.toNat * r1.toNat ≤ 1125899906842624 * 1152921504606846976 := Nat.mul_le_mul (by omega) (by omega)
  have z : (0#64).toNat = 0 := rfl
  obtain ⟨a1, b1, c1, e1, l1, v1⟩ := putM0 0#64 0#64 0#64 0#64 0#64 n0 r0 (by decide)
  obtain ⟨a2, b2, c2, e2, l2, v2⟩ := putM1 b1 c1 0#64 0#64 a1 n0 r1 (by decide)
  obtain ⟨a3, b3, c3, e3, l3, v3⟩ := putM1 a2 b2 0#64 c2 a1 n1 r0 (by omega)
  obtain ⟨a4, b4, c4, e4, l4, v4⟩ := putM2 a1 a3 b3 c3 0#64 n1 r1 (by decide)
  obtain ⟨a5, b5, c5, e5, l5, v5⟩ := putM2 a1 a3 a4 b4 c4 n2 r0 (by omega)
  have vz : W5 0#64 0#64 0#64 0#64 0#64 = 0 := by decide
  have hs := six n0.toNat n1.toNat n2.toNat r0.toNat r1.toNat
  obtain ⟨a6, b6, e6, v6⟩ := putM3 a1 a3 a5 b5 c5 n2 r1 (by omega)
  refine ⟨a1, a3, a5, a6, b6, ?_, ?_⟩
  · simp only [allT, rowT, Nat.reduceAdd, List.getD_cons_zero, List.getD_cons_succ, e1, e2, e3, e4, e5, e6]
  · show _ = (n0.toNat + 18446744073709551616 * n1.toNat + 340282366920938463463374607431768211456 * n2.toNat) * (r0.toNat + 18446744073709551616 * r1.toNat)
    omega
/-- A word out of two. -/
def twoW (a b : BitVec 64) : BitVec 64 := a >>> 2 ||| b <<< 62
theorem twoW_val (a b : BitVec 64) : (twoW a b).toNat = a.toNat / 4 + 4611686018427387904 * (b.toNat % 4) := by
  have ha := a.isLt
  have hb := b.isLt
  unfold twoW
  rw [BitVec.toNat_or, BitVec.toNat_ushiftRight, BitVec.toNat_shiftLeft, Nat.shiftRight_eq_div_pow, Nat.shiftLeft_eq, Nat.or_comm,
    show b.toNat * 2 ^ 62 % 2 ^ 64 = 2 ^ 62 * (b.toNat % 4) by omega, ← Nat.two_pow_add_eq_or_of_lt (by omega)]
  omega
def lowT (w : List (BitVec 64)) : N3 := (w.getD 0 0, w.getD 1 0, w.getD 2 0 &&& 3#64)
def highT (w : List (BitVec 64)) : N3 := (twoW (w.getD 2 0) (w.getD 3 0), twoW (w.getD 3 0) (w.getD 4 0), w.getD 4 0 >>> 2)
def fiveT (h : N3) : N3 := plusN (plusN (plusN (plusN h h) h) h) h
def timesN (n : N3) (r : BitVec 64 × BitVec 64) : N3 := foldN (plusN (lowT (allT n r 3)) (fiveT (highT (allT n r 3))))
theorem timesN_val (n : N3) (r : BitVec 64 × BitVec 64) (h0 : r.1.toNat < 1152921504606846976) (h1 : r.2.toNat < 1152921504606846976) (h2 : n.2.2.toNat < 1125899906842624) :
    (∃ q, valN n * valR r = valN (timesN n r) + 1361129467683753853853498429727072845819 * q) ∧ (timesN n r).2.2.toNat < 8 := by
  obtain ⟨a, b, c, d, e, hw, hv⟩ := allT_val n r h0 h1 h2
  have hN : valN n ≤ 340282366920938463463374607431768211456 * 1125899906842624 := by
    have := n.1.isLt
    have := n.2.1.isLt
    unfold valN; omega
  have hR : valR r ≤ 18446744073709551616 * 1152921504606846976 := by unfold valR; omega
  have hNR := Nat.mul_le_mul hN hR
  rw [← hv] at hNR ⊢
  unfold timesN
  rw [hw]
  have la : lowT [a, b, c, d, e] = (a, b, c &&& 3#64) := rfl
  have lb : highT [a, b, c, d, e] = (twoW c d, twoW d e, e >>> 2) := rfl
  rw [la, lb]
  have ea := a.isLt
  have eb := b.isLt
  have ec := c.isLt
  have ed := d.isLt
  have ee := e.isLt
  have vl : valN (a, b, c &&& 3#64) = W5 a b c d e % 1361129467683753853853498429727072845824 := by
    have := and3 c
    unfold valN W5; simp only; omega
  have vh : valN (twoW c d, twoW d e, e >>> 2) = W5 a b c d e / 1361129467683753853853498429727072845824 := by
    have t1 := twoW_val c d
    have t2 := twoW_val d e
    have t3 : (e >>> 2).toNat = e.toNat / 4 := by rw [BitVec.toNat_ushiftRight, Nat.shiftRight_eq_div_pow]
    unfold valN W5; simp only; omega
  generalize W5 a b c d e = X at *
  generalize (a, b, c &&& 3#64) = L at *
  generalize (twoW c d, twoW d e, e >>> 2) = H at *
  have tH := valN_hi H
  have tL := valN_hi L
  unfold fiveT
  have s1 := plusN_val H H (by omega)
  have t1 := valN_hi (plusN H H)
  have s2 := plusN_val (plusN H H) H (by omega)
  have t2 := valN_hi (plusN (plusN H H) H)
  have s3 := plusN_val (plusN (plusN H H) H) H (by omega)
  have t3 := valN_hi (plusN (plusN (plusN H H) H) H)
  have s4 := plusN_val (plusN (plusN (plusN H H) H) H) H (by omega)
  have t4 := valN_hi (plusN (plusN (plusN (plusN H H) H) H) H)
  have s5 := plusN_val L (plusN (plusN (plusN (plusN H H) H) H) H) (by omega)
  have t5 := valN_hi (plusN L (plusN (plusN (plusN (plusN H H) H) H) H))
  have s6 := foldN_val (plusN L (plusN (plusN (plusN (plusN H H) H) H) H)) (by omega)
  have t6 := valN_hi (foldN (plusN L (plusN (plusN (plusN (plusN H H) H) H) H)))
  refine ⟨⟨X / 1361129467683753853853498429727072845824 + valN (plusN L (plusN (plusN (plusN (plusN H H) H) H) H)) / 1361129467683753853853498429727072845824, ?_⟩, ?_⟩
  · rw [s6]; omega
  · rw [t6, s6]; omega
end Go.Vm
