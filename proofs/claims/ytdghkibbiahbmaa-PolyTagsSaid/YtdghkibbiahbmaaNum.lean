/- Numbers as bytes: plain laws; no program. -/
import Derived.Test.YtdghkibbiahbmaaVmS
set_option linter.unusedVariables false
set_option linter.unusedSimpArgs false
set_option linter.unusedSectionVars false
namespace Go.Vm
theorem snoc_ind {α : Type} {p : List α → Prop} (h0 : p []) (h1 : ∀ l a, p l → p (l ++ [a])) (l : List α) : p l := by
  have : ∀ l : List α, p l.reverse := by
    intro l
    induction l with
    | nil => exact h0
    | cons a l ih => rw [List.reverse_cons]; exact h1 _ _ ih
  have h := this l.reverse
  rwa [List.reverse_reverse] at h
theorem pow256 (k : Nat) : 256 ^ (k + 1) = 256 * 256 ^ k := by rw [Nat.pow_succ, Nat.mul_comm]
/-- The number of bytes, the highest first. -/
def be (s : List (BitVec 8)) : Nat := s.foldl (fun n b => 256 * n + b.toNat) 0
/-- The number of bytes, the lowest first. -/
def le : List (BitVec 8) → Nat
  | [] => 0
  | b :: l => b.toNat + 256 * le l
def beB (n : Nat) : Nat → List (BitVec 8)
  | 0 => []
  | k + 1 => beB (n / 256) k ++ [BitVec.ofNat 8 n]
def leB (n : Nat) : Nat → List (BitVec 8)
  | 0 => []
  | k + 1 => BitVec.ofNat 8 n :: leB (n / 256) k
theorem be_snoc (s : List (BitVec 8)) (b : BitVec 8) : be (s ++ [b]) = 256 * be s + b.toNat := by unfold be; rw [List.foldl_append]; rfl
theorem be_nil : be [] = 0 := rfl
theorem be_lt (s : List (BitVec 8)) : be s < 256 ^ s.length := by
  induction s using snoc_ind with
  | h0 => exact Nat.one_pos
  | h1 s b ih =>
    rw [be_snoc, List.length_append, List.length_singleton, pow256]
    have := b.isLt
    omega
theorem le_lt (s : List (BitVec 8)) : le s < 256 ^ s.length := by
  induction s with
  | nil => exact Nat.one_pos
  | cons b s ih =>
    rw [le, List.length_cons, pow256]
    have := b.isLt
    omega
theorem le_reverse (s : List (BitVec 8)) : le s.reverse = be s := by
  induction s using snoc_ind with
  | h0 => rfl
  | h1 s b ih => rw [List.reverse_append, List.reverse_singleton, List.singleton_append, le, be_snoc, ih]; omega
theorem beB_length (n k : Nat) : (beB n k).length = k := by
  induction k generalizing n with
  | zero => rfl
  | succ k ih => rw [beB, List.length_append, ih]; rfl
theorem leB_length (n k : Nat) : (leB n k).length = k := by
  induction k generalizing n with
  | zero => rfl
  | succ k ih => rw [leB, List.length_cons, ih]
theorem be_beB (n k : Nat) : be (beB n k) = n % 256 ^ k := by
  induction k generalizing n with
  | zero => simp [beB, be_nil, Nat.mod_one]
  | succ k ih =>
    rw [beB, be_snoc, ih, BitVec.toNat_ofNat, pow256, Nat.mod_mul]
    show 256 * _ + n % 256 = _
    omega
theorem le_leB (n k : Nat) : le (leB n k) = n % 256 ^ k := by
  induction k generalizing n with
  | zero => simp [leB, le, Nat.mod_one]
  | succ k ih =>
    rw [leB, le, ih, BitVec.toNat_ofNat, pow256, Nat.mod_mul]
theorem ofNat_snoc (m : Nat) (b : BitVec 8) : BitVec.ofNat 8 (256 * m + b.toNat) = b := by
  apply BitVec.eq_of_toNat_eq
  have := b.isLt
  rw [BitVec.toNat_ofNat]
  show (256 * m + b.toNat) % 256 = _
  omega
theorem beB_be (s : List (BitVec 8)) : beB (be s) s.length = s := by
  induction s using snoc_ind with
  | h0 => rfl
  | h1 s b ih =>
    have hb := b.isLt
    rw [List.length_append, List.length_singleton, beB, be_snoc, ofNat_snoc, show (256 * be s + b.toNat) / 256 = be s by omega, ih]
theorem leB_le (s : List (BitVec 8)) : leB (le s) s.length = s := by
  induction s with
  | nil => rfl
  | cons b s ih =>
    have hb := b.isLt
    rw [List.length_cons, leB, le, show (b.toNat + 256 * le s) / 256 = le s by omega, ih, show b.toNat + 256 * le s = 256 * le s + b.toNat by omega, ofNat_snoc]
theorem beB_mod (n k : Nat) : beB (n % 256 ^ k) k = beB n k := by
  have h := beB_be (beB n k)
  rw [be_beB, beB_length] at h; exact h
theorem leB_mod (n k : Nat) : leB (n % 256 ^ k) k = leB n k := by
  have h := leB_le (leB n k)
  rw [le_leB, leB_length] at h; exact h
theorem be_inj {s t : List (BitVec 8)} (hl : s.length = t.length) (h : be s = be t) : s = t := by
  rw [← beB_be s, ← beB_be t, hl, h]
theorem getD_take {s : List (BitVec 8)} {k i : Nat} (h : i < k) : (s.take k).getD i 0 = s.getD i 0 := by
  rw [List.getD_eq_getElem?_getD, List.getD_eq_getElem?_getD, List.getElem?_take_of_lt h]
theorem take_snoc {s : List (BitVec 8)} {i : Nat} (h : i < s.length) : s.take (i + 1) = s.take i ++ [s.getD i 0] := by
  rw [List.take_succ_eq_append_getElem h, List.getD_eq_getElem?_getD, List.getElem?_eq_getElem h]; rfl
theorem drop_cons' {s : List (BitVec 8)} {i : Nat} (h : i < s.length) : s.drop i = s.getD i 0 :: s.drop (i + 1) := by
  rw [List.drop_eq_getElem_cons h, List.getD_eq_getElem?_getD, List.getElem?_eq_getElem h]; rfl
theorem slice1 {s : List (BitVec 8)} {i : Nat} (h : i < s.length) : (s.take (i + 1)).drop i = [s.getD i 0] := by
  rw [take_snoc h, List.drop_left' (by simp; omega)]
/-- A byte behind a number. -/
theorem shl8_or {n : Nat} (h : n < 72057594037927936) (b : BitVec 8) : BitVec.ofNat 64 n <<< 8 ||| b.setWidth 64 = BitVec.ofNat 64 (256 * n + b.toNat) := by
  apply BitVec.eq_of_toNat_eq
  have hb := b.isLt
  rw [BitVec.toNat_or, BitVec.toNat_shiftLeft, BitVec.toNat_ofNat, BitVec.toNat_setWidth, BitVec.toNat_ofNat, Nat.mod_eq_of_lt (by omega : n < 2 ^ 64), Nat.mod_eq_of_lt (by omega : b.toNat < 2 ^ 64), Nat.mod_eq_of_lt (by omega : 256 * n + b.toNat < 2 ^ 64),
    Nat.mod_eq_of_lt (by rw [Nat.shiftLeft_eq]; omega), ← Nat.shiftLeft_add_eq_or_of_lt (by omega : b.toNat < 2 ^ 8), Nat.shiftLeft_eq]
  omega
end Go.Vm
