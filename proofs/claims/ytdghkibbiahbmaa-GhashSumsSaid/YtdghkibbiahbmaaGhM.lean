/- A part of the proof: laws of a small machine of values, or what one function answers, proved against the model; no conditions beyond those in each theorem. -/
import Derived.Test.YtdghkibbiahbmaaGhC
set_option linter.unusedVariables false
set_option linter.unusedSimpArgs false
set_option linter.unusedSectionVars false
namespace Go.Vm
def bitP (p : BitVec 64 × BitVec 64) (k : Nat) : Bool := if k < 64 then p.1.getLsbD (63 - k) else if k < 128 then p.2.getLsbD (127 - k) else false
theorem bit_dec (w : BitVec 64) (n : Nat) : decide (w >>> n &&& 1#64 = 1#64) = w.getLsbD n := by
  have h : (w >>> n &&& 1#64).toNat = (w.getLsbD n).toNat := by
    rw [BitVec.toNat_and, BitVec.toNat_ushiftRight, Nat.shiftRight_eq_div_pow, show (1#64).toNat = 2 ^ 1 - 1 from rfl, Nat.and_two_pow_sub_one_eq_mod, BitVec.getLsbD, Nat.testBit_eq_decide_div_mod_eq]
    have := Nat.mod_two_eq_zero_or_one (w.toNat / 2 ^ n)
    rcases this with h | h <;> simp [h]
  cases hb : w.getLsbD n with
  | false =>
    rw [hb] at h
    apply decide_eq_false
    intro e; rw [e] at h; exact absurd h (by decide)
  | true =>
    rw [hb] at h
    exact decide_eq_true (BitVec.eq_of_toNat_eq h)
theorem bitX_eq (x : BitVec 64 × BitVec 64) (i : Nat) (h : i < 128) : bitX x i = bitP x i := by
  unfold bitX bitP
  by_cases h6 : 64 ≤ i
  · rw [if_pos h6, if_neg (by omega : ¬ i < 64), if_pos h, bit_dec, show 63 - i % 64 = 127 - i by omega]
  · rw [if_neg h6, if_pos (by omega : i < 64), bit_dec, show 63 - i % 64 = 63 - i by omega]
def tapB (k : Nat) : Bool := decide (k = 0 ∨ k = 1 ∨ k = 2 ∨ k = 7)
def stepF (g : Nat → Bool) (k : Nat) : Bool := (decide (1 ≤ k) && g (k - 1)) ^^ (g 127 && tapB k)
theorem tap_const : ∀ k, k < 64 → ((1#64 * 225#64) <<< 56).getLsbD (63 - k) = tapB k := by decide
theorem low_and (w : BitVec 64) : w &&& 1#64 = if w.getLsbD 0 then 1#64 else 0#64 := by
  have h := bit_dec w 0
  rw [BitVec.ushiftRight_zero] at h
  cases hb : w.getLsbD 0 with
  | true => rw [hb] at h; simpa using h
  | false =>
    apply BitVec.eq_of_toNat_eq
    have h2 : w.toNat % 2 = 0 := by
      have := hb
      rw [BitVec.getLsbD, Nat.testBit_eq_decide_div_mod_eq] at this
      simp at this; omega
    rw [BitVec.toNat_and, show (1#64).toNat = 2 ^ 1 - 1 from rfl, Nat.and_two_pow_sub_one_eq_mod, h2]; rfl
theorem stepV_bit (p : BitVec 64 × BitVec 64) (k : Nat) (h : k < 128) : bitP (stepV p) k = stepF (bitP p) k := by
  have h127 : bitP p 127 = p.2.getLsbD 0 := by unfold bitP; simp
  unfold stepF
  rw [h127]
  by_cases h6 : k < 64
  · have e1 : bitP (stepV p) k = (p.1.getLsbD (1 + (63 - k)) ^^ (((if p.2.getLsbD 0 then 1#64 else 0#64) * 225#64) <<< 56).getLsbD (63 - k)) := by
      unfold bitP stepV
      rw [if_pos h6, BitVec.getLsbD_xor, BitVec.getLsbD_ushiftRight, low_and]
    rw [e1]
    have e2 : (((if p.2.getLsbD 0 then 1#64 else 0#64) * 225#64) <<< 56).getLsbD (63 - k) = (p.2.getLsbD 0 && tapB k) := by
      cases p.2.getLsbD 0 with
      | true => simpa using tap_const k h6
      | false => simp
    have e3 : p.1.getLsbD (1 + (63 - k)) = (decide (1 ≤ k) && bitP p (k - 1)) := by
      by_cases hk : 1 ≤ k
      · unfold bitP
        rw [if_pos (by omega : k - 1 < 64), decide_eq_true hk, Bool.true_and, show 1 + (63 - k) = 63 - (k - 1) by omega]
      · obtain rfl : k = 0 := by omega
        rw [BitVec.getLsbD_of_ge _ _ (by decide)]; simp
    rw [e2, e3]
  · have hk : 1 ≤ k := by omega
    have ht : tapB k = false := decide_eq_false (by omega)
    have e1 : bitP (stepV p) k = (p.2.getLsbD (1 + (127 - k)) || (decide (127 - k < 64) && !decide (127 - k < 63) && p.1.getLsbD (127 - k - 63))) := by
      unfold bitP stepV
      rw [if_neg h6, if_pos h, BitVec.getLsbD_or, BitVec.getLsbD_ushiftRight, BitVec.getLsbD_shiftLeft]
    rw [e1, ht, decide_eq_true hk]
    by_cases hk4 : k = 64
    · subst hk4
      rw [BitVec.getLsbD_of_ge _ _ (by decide)]
      unfold bitP; simp
    · have : (127 - k < 63) := by omega
      unfold bitP
      rw [if_neg (by omega : ¬ k - 1 < 64), if_pos (by omega : k - 1 < 128), decide_eq_true this, show 1 + (127 - k) = 127 - (k - 1) by omega]
      simp
theorem bitP_xor (p q : BitVec 64 × BitVec 64) (k : Nat) : bitP (p.1 ^^^ q.1, p.2 ^^^ q.2) k = (bitP p k ^^ bitP q k) := by
  unfold bitP
  by_cases h : k < 64
  · simp [h]
  · by_cases h2 : k < 128 <;> simp [h, h2]
-- the reduction
theorem redK_xor (k : Nat) (f g : Nat → Bool) : redK k (fun m => f m ^^ g m) = fun m => redK k f m ^^ redK k g m := by
  funext m
  show ((f m ^^ g m) ^^ ((f k ^^ g k) && tapP k m)) = ((f m ^^ (f k && tapP k m)) ^^ (g m ^^ (g k && tapP k m)))
  cases f m <;> cases g m <;> cases f k <;> cases g k <;> cases tapP k m <;> rfl
theorem redTo_xor (f g : Nat → Bool) (r : Nat) : redTo (fun m => f m ^^ g m) r = fun m => redTo f r m ^^ redTo g r m := by
  induction r with
  | zero => rfl
  | succ r ih => rw [redTo, ih, redK_xor]; rfl
theorem redTo_low (f : Nat → Bool) (hf : ∀ k, 128 ≤ k → f k = false) : ∀ r, r ≤ 127 → redTo f r = f := by
  intro r
  induction r with
  | zero => intro _; rfl
  | succ r ih =>
    intro hr
    rw [redTo, ih (by omega)]
    funext m; unfold redK; rw [hf (254 - r) (by omega)]; simp
def sh (f : Nat → Bool) (k : Nat) : Bool := decide (1 ≤ k) && f (k - 1)
theorem redK_sh (k : Nat) (hk : 128 ≤ k) (f : Nat → Bool) : redK (k + 1) (sh f) = sh (redK k f) := by
  funext m
  unfold redK sh
  have e : (decide (1 ≤ k + 1) && f (k + 1 - 1)) = f k := by simp
  rw [e]
  by_cases hm : 1 ≤ m
  · have ht : tapP (k + 1) m = tapP k (m - 1) := by
      unfold tapP
      congr 1
      simp only [eq_iff_iff]
      omega
    rw [decide_eq_true hm, ht]; simp
  · have ht : tapP (k + 1) m = false := decide_eq_false (by omega)
    rw [decide_eq_false hm, ht]; simp
theorem redTo_sh (f : Nat → Bool) (hf : f 254 = false) : ∀ r, r ≤ 126 → redTo (sh f) r = sh (redTo f (r + 1)) := by
  intro r
  induction r with
  | zero =>
    intro _
    have : redTo f 1 = f := by
      rw [redTo, redTo]; funext m; unfold redK; rw [show 254 - 0 = 254 from rfl, hf]; simp
    rw [this]; rfl
  | succ r ih =>
    intro hr
    rw [redTo, ih (by omega), show 254 - r = (253 - r) + 1 by omega, redK_sh _ (by omega)]
    congr 1
    show _ = redK (254 - (r + 1)) _
    rw [show 254 - (r + 1) = 253 - r by omega]
theorem Rd_sh (f : Nat → Bool) (hf : f 254 = false) (m : Nat) (hm : m < 128) : redTo (sh f) 127 m = stepF (redTo f 127) m := by
  rw [redTo, redTo_sh f hf 126 (by omega)]
  unfold redK stepF sh
  have ht : tapP (254 - 126) m = tapB m := by unfold tapP tapB; rfl
  rw [ht]; simp
def shn (i : Nat) (f : Nat → Bool) (k : Nat) : Bool := decide (i ≤ k) && f (k - i)
theorem sh_shn (i : Nat) (f : Nat → Bool) : sh (shn i f) = shn (i + 1) f := by
  funext k; unfold sh shn
  by_cases h : 1 ≤ k
  · rw [decide_eq_true h, Bool.true_and, show (k - 1) - i = k - (i + 1) by omega]
    congr 1
    by_cases h2 : i ≤ k - 1
    · rw [decide_eq_true h2, decide_eq_true (by omega)]
    · rw [decide_eq_false h2, decide_eq_false (by omega)]
  · rw [decide_eq_false h, decide_eq_false (by omega : ¬ i + 1 ≤ k)]; simp
theorem Rd_shn (y : BitVec 64 × BitVec 64) : ∀ i, i ≤ 127 → ∀ m, m < 128 → redTo (shn i (bitP y)) 127 m = bitP (vT y i) m := by
  have hy : ∀ k, 128 ≤ k → bitP y k = false := fun k hk => by unfold bitP; rw [if_neg (by omega), if_neg (by omega)]
  intro i
  induction i with
  | zero =>
    intro _ m hm
    have : shn 0 (bitP y) = bitP y := by funext k; unfold shn; simp
    rw [this, redTo_low _ hy 127 (by omega)]; rfl
  | succ i ih =>
    intro hi m hm
    have h254 : shn i (bitP y) 254 = false := by unfold shn; rw [hy (254 - i) (by omega)]; simp
    rw [← sh_shn, Rd_sh _ h254 m hm, vT, stepV_bit _ _ hm]
    unfold stepF
    rw [ih (by omega) 127 (by omega)]
    by_cases h1 : 1 ≤ m
    · rw [ih (by omega) (m - 1) (by omega)]
    · rw [decide_eq_false h1]; simp
theorem prodF_step (A : Nat → Bool) (B : Nat → Bool) (y : BitVec 64 × BitVec 64) (hB : ∀ k, k < 128 → B k = bitP y k) (i : Nat) : prodF A B (i + 1) = fun k => prodF A B i k ^^ (A i && shn i (bitP y) k) := by
  funext k
  rw [prodF]
  congr 1
  rw [Bool.and_assoc]
  congr 1
  unfold shn
  by_cases h1 : i ≤ k
  · by_cases h2 : k < i + 128
    · rw [hB (k - i) (by omega), decide_eq_true ⟨h1, h2⟩, decide_eq_true h1]
    · have : bitP y (k - i) = false := by unfold bitP; rw [if_neg (by omega), if_neg (by omega)]
      rw [this, decide_eq_false (by omega : ¬ (i ≤ k ∧ k < i + 128))]; simp
  · rw [decide_eq_false h1, decide_eq_false (by omega : ¬ (i ≤ k ∧ k < i + 128))]; simp
theorem Rd_prod (x y : BitVec 64 × BitVec 64) (A B : Nat → Bool) (hA : ∀ k, k < 128 → A k = bitP x k) (hB : ∀ k, k < 128 → B k = bitP y k) : ∀ n, n ≤ 128 → ∀ m, m < 128 → redTo (prodF A B n) 127 m = bitP (zT x y n) m := by
  intro n
  induction n with
  | zero =>
    intro _ m _
    have : prodF A B 0 = fun _ => false := rfl
    rw [this, redTo_low _ (fun _ _ => rfl) 127 (by omega)]
    unfold bitP zT; simp
  | succ n ih =>
    intro hn m hm
    rw [prodF_step A B y hB n, redTo_xor]
    show (redTo (prodF A B n) 127 m ^^ redTo (fun k => A n && shn n (bitP y) k) 127 m) = _
    rw [ih (by omega) m hm, hA n (by omega), zT, bitX_eq x n (by omega)]
    cases bitP x n with
    | false =>
      have : (fun k => false && shn n (bitP y) k) = fun _ => false := by funext k; simp
      rw [this, redTo_low _ (fun _ _ => rfl) 127 (by omega)]; simp
    | true =>
      have : (fun k => true && shn n (bitP y) k) = shn n (bitP y) := by funext k; simp
      rw [this, Rd_shn y n (by omega) m hm, if_pos rfl, bitP_xor (zT x y n) (vT y n)]
-- the bytes
theorem byte_bits : ∀ x0 x1 x2 x3 x4 x5 x6 x7 : Bool, (BitVec.ofInt 8 (acc8 x0 x1 x2 x3 x4 x5 x6 x7)).getLsbD 7 = x0 ∧ (BitVec.ofInt 8 (acc8 x0 x1 x2 x3 x4 x5 x6 x7)).getLsbD 6 = x1 ∧ (BitVec.ofInt 8 (acc8 x0 x1 x2 x3 x4 x5 x6 x7)).getLsbD 5 = x2 ∧ (BitVec.ofInt 8 (acc8 x0 x1 x2 x3 x4 x5 x6 x7)).getLsbD 4 = x3 ∧ (BitVec.ofInt 8 (acc8 x0 x1 x2 x3 x4 x5 x6 x7)).getLsbD 3 = x4 ∧ (BitVec.ofInt 8 (acc8 x0 x1 x2 x3 x4 x5 x6 x7)).getLsbD 2 = x5 ∧ (BitVec.ofInt 8 (acc8 x0 x1 x2 x3 x4 x5 x6 x7)).getLsbD 1 = x6 ∧ (BitVec.ofInt 8 (acc8 x0 x1 x2 x3 x4 x5 x6 x7)).getLsbD 0 = x7 := by
  exact of_decide_eq_true (by kernel_rfl)
theorem outF_bit (f : Nat → Bool) (k : Nat) (h : k < 128) : bitS (outF f 16) k = f k := by
  unfold bitS outF
  rw [List.getD_eq_getElem?_getD, List.getElem?_map, List.getElem?_range (by omega : k / 8 < 16)]
  show (byteF f (k / 8)).getLsbD (7 - k % 8) = f k
  unfold byteF
  obtain ⟨h0, h1, h2, h3, h4, h5, h6, h7⟩ := byte_bits (f (8 * (k / 8))) (f (8 * (k / 8) + 1)) (f (8 * (k / 8) + 2)) (f (8 * (k / 8) + 3)) (f (8 * (k / 8) + 4)) (f (8 * (k / 8) + 5)) (f (8 * (k / 8) + 6)) (f (8 * (k / 8) + 7))
  have hk : k = 8 * (k / 8) + k % 8 := by omega
  have hr : k % 8 < 8 := by omega
  generalize hq : k / 8 = q at *
  generalize hrr : k % 8 = r at *
  subst hk
  match r, hr with
  | 0, _ => exact h0
  | 1, _ => exact h1
  | 2, _ => exact h2
  | 3, _ => exact h3
  | 4, _ => exact h4
  | 5, _ => exact h5
  | 6, _ => exact h6
  | 7, _ => exact h7
theorem beB8_bit (n : BitVec 64) (k : Nat) (h : k < 64) : ((beB n.toNat 8).getD (k / 8) 0).getLsbD (7 - k % 8) = n.getLsbD (63 - k) := by
  rw [beB8]
  have hk : k = 8 * (k / 8) + k % 8 := by omega
  have hr : k % 8 < 8 := by omega
  have hq8 : k / 8 < 8 := by omega
  generalize hq : k / 8 = q at *
  generalize hrr : k % 8 = r at *
  subst hk
  have key : ∀ s, ((n >>> s).setWidth 8).getLsbD (7 - r) = n.getLsbD (s + (7 - r)) := fun s => by
    rw [BitVec.getLsbD_setWidth, BitVec.getLsbD_ushiftRight, decide_eq_true (by omega : 7 - r < 8), Bool.true_and]
  match q, hq8 with
  | 0, _ => exact (key 56).trans (by congr 1; omega)
  | 1, _ => exact (key 48).trans (by congr 1; omega)
  | 2, _ => exact (key 40).trans (by congr 1; omega)
  | 3, _ => exact (key 32).trans (by congr 1; omega)
  | 4, _ => exact (key 24).trans (by congr 1; omega)
  | 5, _ => exact (key 16).trans (by congr 1; omega)
  | 6, _ => exact (key 8).trans (by congr 1; omega)
  | 7, _ => exact (key 0).trans (by congr 1; omega)
theorem text_bit (p : BitVec 64 × BitVec 64) (k : Nat) (h : k < 128) : bitS (beB p.1.toNat 8 ++ beB p.2.toNat 8) k = bitP p k := by
  have hl := beB_length p.1.toNat 8
  unfold bitS bitP
  by_cases h6 : k < 64
  · rw [if_pos h6, List.getD_eq_getElem?_getD, List.getElem?_append_left (by omega), ← List.getD_eq_getElem?_getD, beB8_bit _ _ h6]
  · have h8 := beB8_bit p.2 (k - 64) (by omega)
    rw [if_neg h6, if_pos h, List.getD_eq_getElem?_getD, List.getElem?_append_right (by omega), ← List.getD_eq_getElem?_getD, hl, show k / 8 - 8 = (k - 64) / 8 by omega, show 7 - k % 8 = 7 - (k - 64) % 8 by omega, h8, show 63 - (k - 64) = 127 - k by omega]
theorem read_bit (s : List (BitVec 8)) (h : s.length = 16) (k : Nat) (hk : k < 128) : bitS s k = bitP (BitVec.ofNat 64 (be (s.take 8)), BitVec.ofNat 64 (be (s.drop 8))) k := by
  have h1 : (s.take 8).length = 8 := by rw [List.length_take]; omega
  have h2 : (s.drop 8).length = 8 := by rw [List.length_drop]; omega
  have t1 : beB (BitVec.ofNat 64 (be (s.take 8))).toNat 8 = s.take 8 := by
    have hlt := be_lt (s.take 8)
    rw [h1] at hlt
    rw [BitVec.toNat_ofNat, Nat.mod_eq_of_lt (by omega)]
    have := beB_be (s.take 8)
    rwa [h1] at this
  have t2 : beB (BitVec.ofNat 64 (be (s.drop 8))).toNat 8 = s.drop 8 := by
    have hlt := be_lt (s.drop 8)
    rw [h2] at hlt
    rw [BitVec.toNat_ofNat, Nat.mod_eq_of_lt (by omega)]
    have := beB_be (s.drop 8)
    rwa [h2] at this
  rw [← text_bit _ k hk, t1, t2, List.take_append_drop]
theorem bits_ext (s t : List (BitVec 8)) (hs : s.length = 16) (ht : t.length = 16) (h : ∀ k, k < 128 → bitS s k = bitS t k) : s = t := by
  apply List.ext_getElem (by omega)
  intro i h1 h2
  apply BitVec.eq_of_getLsbD_eq
  intro j hj
  have := h (8 * i + (7 - j)) (by omega)
  unfold bitS at this
  rw [show (8 * i + (7 - j)) / 8 = i by omega, show 7 - (8 * i + (7 - j)) % 8 = j by omega, List.getD_eq_getElem?_getD, List.getD_eq_getElem?_getD, List.getElem?_eq_getElem h1, List.getElem?_eq_getElem h2] at this
  exact this
def rdP (s : List (BitVec 8)) : BitVec 64 × BitVec 64 := (BitVec.ofNat 64 (be (s.take 8)), BitVec.ofNat 64 (be (s.drop 8)))
def ghB (a b : List (BitVec 8)) : List (BitVec 8) := beB (zT (rdP a) (rdP b) 128).1.toNat 8 ++ beB (zT (rdP a) (rdP b) 128).2.toNat 8
theorem ghash_eq (a b : List (BitVec 8)) (h1 : a.length = 16) (h2 : b.length = 16) : outF (redTo (prodF (bitS a) (bitS b) 128) 127) 16 = ghB a b := by
  apply bits_ext
  · exact outF_length _ _
  · unfold ghB; rw [List.length_append, beB_length, beB_length]
  intro k hk
  rw [outF_bit _ k hk]
  unfold ghB
  rw [text_bit _ k hk]
  exact Rd_prod (rdP a) (rdP b) (bitS a) (bitS b) (fun k hk => read_bit a h1 k hk) (fun k hk => read_bit b h2 k hk) 128 (by omega) k hk
end Go.Vm
