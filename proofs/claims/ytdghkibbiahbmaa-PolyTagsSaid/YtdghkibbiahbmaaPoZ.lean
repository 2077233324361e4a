/- A part of the proof: laws of a small machine of values, or what one function answers, proved against the model; no conditions beyond those in each theorem. -/
import Derived.Test.YtdghkibbiahbmaaPoY
import Derived.Test.YtdghkibbiahbmaaPoT
import Derived.Test.YtdghkibbiahbmaaBytes
set_option linter.unusedVariables false
set_option linter.unusedSimpArgs false
set_option linter.unusedSectionVars false
namespace Go.Vm
open Go.Proofs
set_option maxRecDepth 20000
theorem ten {α : Type} (l : List α) (h : l.length = 10) : ∃ a b c d e f g i j k : α, l = [a, b, c, d, e, f, g, i, j, k] := by
  match l, h with
  | [a, b, c, d, e, f, g, i, j, k], _ => exact ⟨a, b, c, d, e, f, g, i, j, k, rfl⟩
def small (l : List (BitVec 64)) : Prop := l.length = 10 ∧ ∀ x ∈ l, x.toNat < 8192
theorem valL_lt : ∀ (l : List (BitVec 64)), (∀ x ∈ l, x.toNat < 8192) → valL l < 8192 ^ l.length
  | [], _ => Nat.one_pos
  | x :: l, h => by
    have h0 := h x List.mem_cons_self
    have ih := valL_lt l fun y hy => h y (List.mem_cons_of_mem _ hy)
    rw [List.length_cons, Nat.pow_succ]
    show x.toNat + 8192 * valL l < _
    omega
theorem pass_fold (w : List (BitVec 64)) (hw : w.length = 10) (hx : ∀ x ∈ w, x.toNat < 1152921504606846976) :
    valL (pass w) = valL w % 1361129467683753853853498429727072845824 + 5 * (valL w / 1361129467683753853853498429727072845824) ∧ (valL w < 1361129467683753853853498429727072845824 → ∀ x ∈ pass w, x.toNat < 8192) := by
  have hp := passTo_eq w 10 (by omega)
  rw [List.take_of_length_le (by omega), List.drop_of_length_le (by omega), List.append_nil] at hp
  obtain ⟨h1, h2⟩ := passC_val w 0#64 (by decide) (fun x hx' => by have := hx x hx'; omega)
  have hl := passC_length w 0#64
  rw [hw] at h1 hl
  have hcar := passC_carry w 0#64 (by decide) hx
  have hlt := valL_lt _ h2
  rw [hl] at hlt
  have e8 : (8192 : Nat) ^ 10 = 1361129467683753853853498429727072845824 := by decide
  rw [e8] at hlt h1
  rw [show (0#64).toNat = 0 from rfl] at h1
  unfold pass
  rw [hp]
  simp only
  generalize (passC 0#64 w).1 = r at h1 h2 hl hlt ⊢
  generalize (passC 0#64 w).2 = c at h1 hcar ⊢
  cases r with
  | nil => simp at hl
  | cons y r =>
    have hy := h2 y List.mem_cons_self
    have hs := valL_set0 y (y + 5#64 * c) r
    have hyc : (y + 5#64 * c).toNat = y.toNat + 5 * c.toNat := by
      rw [BitVec.toNat_add, BitVec.toNat_mul, show (5#64).toNat = 5 from rfl]; omega
    refine ⟨?_, fun hsm => ?_⟩
    · show valL ((y :: r).set 0 (y + 5#64 * c)) = _
      omega
    · intro x hx'
      rw [List.set_cons_zero] at hx'
      rcases List.mem_cons.1 hx' with rfl | hx'
      · show (y + 5#64 * c).toNat < _
        omega
      · exact h2 x (List.mem_cons_of_mem _ hx')
theorem carr_small (w : List (BitVec 64)) (hw : w.length = 10) (hx : ∀ x ∈ w, x.toNat < 1152921504606846976) :
    (∃ q, valL w = valL (carr w 3) + 1361129467683753853853498429727072845819 * q) ∧ small (carr w 3) := by
  have hv : valL w < 1361129467683753853853498429727072845824 * 1152921504606846976 * 8192 := by
    obtain ⟨a, b, c, d, e, f, g, i, j, k, rfl⟩ := ten w hw
    simp only [List.forall_mem_cons] at hx
    simp only [valL]
    omega
  have c1 := carr_val w hw hx 1
  have c2 := carr_val w hw hx 2
  have l1 := carr_length w 1
  have l2 := carr_length w 2
  have l3 := carr_length w 3
  have p1 := pass_fold w hw hx
  have p2 := pass_fold (carr w 1) (by omega) c1.2
  have p3 := pass_fold (carr w 2) (by omega) c2.2
  have e1 : valL (carr w 1) = valL (pass w) := rfl
  have e2 : valL (carr w 2) = valL (pass (carr w 1)) := rfl
  refine ⟨(carr_val w hw hx 3).1, by omega, ?_⟩
  refine p3.2 ?_
  omega
theorem valL_zip : ∀ (a b : List (BitVec 64)), a.length = b.length → (∀ x ∈ a, x.toNat < 8192) → (∀ x ∈ b, x.toNat < 8192) → valL (List.zipWith (· + ·) a b) = valL a + valL b ∧ ∀ x ∈ List.zipWith (· + ·) a b, x.toNat < 1152921504606846976
  | [], [], _, _, _ => ⟨rfl, by simp⟩
  | [], y :: b, h, _, _ => by simp at h
  | x :: a, [], h, _, _ => by simp at h
  | x :: a, y :: b, h, ha, hb => by
    obtain ⟨h1, h2⟩ := valL_zip a b (by simpa using h) (fun z hz => ha z (List.mem_cons_of_mem _ hz)) (fun z hz => hb z (List.mem_cons_of_mem _ hz))
    have p := ha x List.mem_cons_self
    have q := hb y List.mem_cons_self
    have e : (x + y).toNat = x.toNat + y.toNat := by rw [BitVec.toNat_add]; omega
    rw [List.zipWith_cons_cons]
    refine ⟨?_, ?_⟩
    · show (x + y).toNat + 8192 * valL (List.zipWith (· + ·) a b) = (x.toNat + 8192 * valL a) + (y.toNat + 8192 * valL b)
      rw [h1, e]; omega
    · intro z hz
      rcases List.mem_cons.1 hz with rfl | hz
      · omega
      · exact h2 z hz
theorem sumTo_zip (a b : List (BitVec 64)) (ha : a.length = 10) (hb : b.length = 10) : sumTo a b 10 = List.zipWith (· + ·) a b := by
  obtain ⟨a0, a1, a2, a3, a4, a5, a6, a7, a8, a9, rfl⟩ := ten a ha
  obtain ⟨b0, b1, b2, b3, b4, b5, b6, b7, b8, b9, rfl⟩ := ten b hb
  rfl
theorem sumTo_val (a b : List (BitVec 64)) (ha : small a) (hb : small b) : valL (sumTo a b 10) = valL a + valL b ∧ ∀ x ∈ sumTo a b 10, x.toNat < 1152921504606846976 := by
  rw [sumTo_zip a b ha.1 hb.1]
  exact valL_zip a b (by rw [ha.1, hb.1]) ha.2 hb.2
theorem mul13 (x y : BitVec 64) (hx : x.toNat < 8192) (hy : y.toNat < 8192) : (x * y).toNat = x.toNat * y.toNat ∧ (5#64 * x * y).toNat = 5 * (x.toNat * y.toNat) ∧ x.toNat * y.toNat < 67108864 := by
  have h : x.toNat * y.toNat ≤ 8191 * 8191 := Nat.mul_le_mul (by omega) (by omega)
  refine ⟨?_, ?_, by omega⟩
  · rw [BitVec.toNat_mul]; omega
  · rw [BitVec.mul_assoc, BitVec.toNat_mul, BitVec.toNat_mul, show (5#64).toNat = 5 from rfl]; omega
theorem getD_mem64 {l : List (BitVec 64)} {i : Nat} (h : i < l.length) : l.getD i 0 ∈ l := by
  rw [List.getD_eq_getElem?_getD, List.getElem?_eq_getElem h]; exact List.getElem_mem h
theorem set_all {l : List (BitVec 64)} {i N : Nat} {y : BitVec 64} (h : ∀ x ∈ l, x.toNat < N) (hy : y.toNat < N) : ∀ x ∈ l.set i y, x.toNat < N := by
  intro x hx
  rcases List.mem_or_eq_of_mem_set hx with h1 | h1
  · exact h x h1
  · rw [h1]; exact hy
theorem mulAt_val (a b w : List (BitVec 64)) (i k N : Nat) (ha : small a) (hb : small b) (hw : w.length = 10) (hN : ∀ x ∈ w, x.toNat < N) (hN2 : N < 1152921504606846976) (hi : i < 10) (hk : k < 10) :
    (∃ q, valL w + 8192 ^ (i + k) * ((a.getD i 0).toNat * (b.getD k 0).toNat) = valL (mulAt a b w i k) + 1361129467683753853853498429727072845819 * q) ∧ ∀ x ∈ mulAt a b w i k, x.toNat < N + 536870912 := by
  have ga := ha.2 _ (getD_mem64 (l := a) (i := i) (by rw [ha.1]; exact hi))
  have gb := hb.2 _ (getD_mem64 (l := b) (i := k) (by rw [hb.1]; exact hk))
  obtain ⟨m1, m2, m3⟩ := mul13 _ _ ga gb
  unfold mulAt
  split
  · rename_i h10
    have hg := hN _ (getD_mem64 (l := w) (i := i + k) (by omega))
    have hs := valL_getD w (i + k) (w.getD (i + k) 0 + a.getD i 0 * b.getD k 0) (by omega)
    have hy : (w.getD (i + k) 0 + a.getD i 0 * b.getD k 0).toNat = (w.getD (i + k) 0).toNat + (a.getD i 0).toNat * (b.getD k 0).toNat := by rw [BitVec.toNat_add, m1]; omega
    refine ⟨⟨0, ?_⟩, set_all (fun x hx => by have := hN x hx; omega) (by omega)⟩
    rw [hy, Nat.mul_add] at hs
    omega
  · rename_i h10
    have hg := hN _ (getD_mem64 (l := w) (i := i + k - 10) (by omega))
    have hs := valL_getD w (i + k - 10) (w.getD (i + k - 10) 0 + 5#64 * a.getD i 0 * b.getD k 0) (by omega)
    have hy : (w.getD (i + k - 10) 0 + 5#64 * a.getD i 0 * b.getD k 0).toNat = (w.getD (i + k - 10) 0).toNat + 5 * ((a.getD i 0).toNat * (b.getD k 0).toNat) := by rw [BitVec.toNat_add, m2]; omega
    refine ⟨⟨8192 ^ (i + k - 10) * ((a.getD i 0).toNat * (b.getD k 0).toNat), ?_⟩, set_all (fun x hx => by have := hN x hx; omega) (by omega)⟩
    rw [hy, Nat.mul_add] at hs
    have e : (8192 : Nat) ^ (i + k) = 1361129467683753853853498429727072845824 * 8192 ^ (i + k - 10) := by
      rw [show i + k = 10 + (i + k - 10) by omega, Nat.pow_add, show 10 + (i + k - 10) - 10 = i + k - 10 by omega]
    rw [e, Nat.mul_assoc]
    rw [Nat.mul_left_comm] at hs
    generalize 8192 ^ (i + k - 10) * ((a.getD i 0).toNat * (b.getD k 0).toNat) = z at *
    omega
theorem valL_take (l : List (BitVec 64)) (k : Nat) (h : k < l.length) : valL (l.take (k + 1)) = valL (l.take k) + 8192 ^ k * (l.getD k 0).toNat := by
  induction l generalizing k with
  | nil => simp at h
  | cons x l ih =>
    cases k with
    | zero => simp [valL]
    | succ k =>
      have := ih k (by simpa using h)
      rw [List.take_succ_cons, List.take_succ_cons, List.getD_cons_succ]
      show x.toNat + 8192 * valL (l.take (k + 1)) = x.toNat + 8192 * valL (l.take k) + _
      rw [this, Nat.pow_succ, Nat.mul_comm (8192 ^ k) 8192, Nat.mul_assoc]
      omega
theorem rowM_val (a b w : List (BitVec 64)) (i N : Nat) (ha : small a) (hb : small b) (hw : w.length = 10) (hN : ∀ x ∈ w, x.toNat < N) (hN2 : N < 576460752303423488) (hi : i < 10) : ∀ k, k ≤ 10 →
    (∃ q, valL w + 8192 ^ i * (a.getD i 0).toNat * valL (b.take k) = valL (rowM a b w i k) + 1361129467683753853853498429727072845819 * q) ∧ ∀ x ∈ rowM a b w i k, x.toNat < N + 536870912 * k := by
  intro k
  induction k with
  | zero => intro _; exact ⟨⟨0, by simp [valL, rowM]⟩, by simpa [rowM] using hN⟩
  | succ k ih =>
    intro hk
    obtain ⟨⟨q, hq⟩, hb2⟩ := ih (by omega)
    obtain ⟨⟨q2, hq2⟩, hb3⟩ := mulAt_val a b (rowM a b w i k) i k (N + 536870912 * k) ha hb (by rw [rowM_length, hw]) hb2 (by omega) hi (by omega)
    rw [rowM]
    refine ⟨⟨q + q2, ?_⟩, fun x hx => Nat.lt_of_lt_of_le (hb3 x hx) (by rw [Nat.mul_succ]; omega)⟩
    rw [valL_take b k (by rw [hb.1]; omega)]
    rw [Nat.pow_add] at hq2
    grind
theorem mulTo_val (a b : List (BitVec 64)) (ha : small a) (hb : small b) : (∃ q, valL a * valL b = valL (mulTo a b 10) + 1361129467683753853853498429727072845819 * q) ∧ ∀ x ∈ mulTo a b 10, x.toNat < 1152921504606846976 := by
  have key : ∀ i, i ≤ 10 → (∃ q, valL (a.take i) * valL b = valL (mulTo a b i) + 1361129467683753853853498429727072845819 * q) ∧ ∀ x ∈ mulTo a b i, x.toNat < 1 + 5368709120 * i := by
    intro i
    induction i with
    | zero => intro _; exact ⟨⟨0, by simp [valL, mulTo]⟩, by simp [mulTo]⟩
    | succ i ih =>
      intro hi
      obtain ⟨⟨q, hq⟩, h2⟩ := ih (by omega)
      obtain ⟨⟨q2, hq2⟩, h3⟩ := rowM_val a b (mulTo a b i) i (1 + 5368709120 * i) ha hb (mulTo_length a b i) h2 (by omega) (by omega) 10 (by omega)
      rw [List.take_of_length_le (by rw [hb.1]; omega)] at hq2
      rw [mulTo]
      refine ⟨⟨q + q2, ?_⟩, fun x hx => Nat.lt_of_lt_of_le (h3 x hx) (by rw [Nat.mul_succ]; omega)⟩
      rw [valL_take a i (by rw [ha.1]; omega)]
      grind
  obtain ⟨h1, h2⟩ := key 10 (by omega)
  rw [List.take_of_length_le (by rw [ha.1]; omega)] at h1
  exact ⟨h1, fun x hx => by have := h2 x hx; omega⟩
end Go.Vm
