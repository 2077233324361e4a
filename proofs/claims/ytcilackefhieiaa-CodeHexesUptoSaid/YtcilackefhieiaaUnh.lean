/- A part of the proof: laws of a small machine of values, or what one function answers, proved against the model; no conditions beyond those in each theorem. -/
import Derived.Test.YtcilackefhieiaaShelf
set_option linter.unusedVariables false
set_option linter.unusedSimpArgs false
set_option linter.unusedSectionVars false
namespace Go.Vm
open Go.Proofs
set_option maxRecDepth 20000
def ixOf : List (BitVec 8) → BitVec 8 → Int
  | [], _ => -1
  | b :: l, c => if b = c then 0 else if ixOf l c = -1 then -1 else ixOf l c + 1
theorem ixOf_lib (c : BitVec 8) : ∀ l : List UInt8, Lib.indexByte l c.toNat.toUInt8 = ixOf (l.map UInt8.toBitVec) c
  | [] => rfl
  | b :: l => by
    have hc : (c.toNat.toUInt8).toBitVec = c := by
      apply BitVec.eq_of_toNat_eq
      have := c.isLt
      simp [Nat.toUInt8]
    have hb : (b == c.toNat.toUInt8) = decide (b.toBitVec = c) := by
      by_cases h : b = c.toNat.toUInt8
      · subst h; simp [hc]
      · have : ¬ b.toBitVec = c := fun e => h (by rw [← hc] at e; exact UInt8.toBitVec_inj.1 e)
        rw [beq_eq_false_iff_ne.2 h, decide_eq_false this]
    rw [Lib.indexByte, ixOf_lib c l, hb, List.map_cons, ixOf]
    simp
theorem IndexByte_spec (s : List (BitVec 8)) (c : BitVec 8) : PureFn Try.prog 63 [.str s, .u8 c] (.i64 (ixOf s c)) := by
  refine pure_of_below (by kernel_rfl) (by simp [lows, V.low]) (by simp [V.low]) fun w rargs hr => ?_
  unfold VRs at hr
  obtain ⟨r1, rs, e1, h1, hr⟩ := hr
  unfold VRs at hr
  obtain ⟨r2, rs2, e2, h2, hr⟩ := hr
  unfold VRs at hr
  unfold VR at h1 h2
  obtain ⟨b, rfl, hb⟩ := h1
  subst h2 hr e2
  have ha : rargs = #[.string b, .int .u8 c.toNat] := by cases rargs; simp_all
  subst ha
  refine (shelf_IndexByte b c.toNat w).mono ?_
  rintro e w' ⟨rfl, rfl⟩
  refine ⟨_, rfl, ?_, ⟨rfl, rfl, rfl, Nat.le_refl _, fun _ _ => rfl⟩⟩
  unfold VR
  rw [Int.toNat_natCast, ixOf_lib]
  show _ = Value.int .i64 (ixOf s c)
  rw [← hb]; rfl
def hexIx (c : BitVec 8) : Int := ixOf hexes c
def decP (x y : BitVec 8) : Int := if hexIx x < 0 ∨ hexIx y < 0 then -1 else 16 * hexIx x + hexIx y
theorem ix_all : ∀ n : Nat, n < 256 → -1 ≤ hexIx (BitVec.ofNat 8 n) ∧ hexIx (BitVec.ofNat 8 n) < 16 ∧ (0 ≤ hexIx (BitVec.ofNat 8 n) → hexes.getD (hexIx (BitVec.ofNat 8 n)).toNat 0 = BitVec.ofNat 8 n) ∧ hexIx (hx (BitVec.ofNat 8 n >>> 4)) = ((BitVec.ofNat 8 n >>> 4).toNat : Int) ∧ hexIx (hx (BitVec.ofNat 8 n &&& 15#8)) = ((BitVec.ofNat 8 n &&& 15#8).toNat : Int) := of_decide_eq_true (by kernel_rfl)
theorem ix_of (c : BitVec 8) : -1 ≤ hexIx c ∧ hexIx c < 16 ∧ (0 ≤ hexIx c → hexes.getD (hexIx c).toNat 0 = c) ∧ hexIx (hx (c >>> 4)) = ((c >>> 4).toNat : Int) ∧ hexIx (hx (c &&& 15#8)) = ((c &&& 15#8).toNat : Int) := by
  have h := ix_all c.toNat c.isLt
  rwa [show BitVec.ofNat 8 c.toNat = c from BitVec.eq_of_toNat_eq (by rw [BitVec.toNat_ofNat]; have := c.isLt; omega)] at h
theorem split_b (b : BitVec 8) : (b.toNat : Int) = 16 * ((b >>> 4).toNat : Int) + ((b &&& 15#8).toNat : Int) := by
  rw [lo_eq, BitVec.toNat_ushiftRight, Nat.shiftRight_eq_div_pow]; omega
theorem dec_iff (x y b : BitVec 8) : ([hx (b >>> 4), hx (b &&& 15#8)] = [x, y]) ↔ decP x y = (b.toNat : Int) := by
  obtain ⟨_, _, _, h4, h5⟩ := ix_of b
  have hs := split_b b
  constructor
  · intro h
    have hx1 : hx (b >>> 4) = x := by injection h
    have hy1 : hx (b &&& 15#8) = y := by injection h with _ h; injection h
    unfold decP
    rw [← hx1, ← hy1, h4, h5, if_neg (by omega)]; omega
  · intro h
    unfold decP at h
    by_cases hn : hexIx x < 0 ∨ hexIx y < 0
    · rw [if_pos hn] at h; have := b.isLt; omega
    · rw [if_neg hn] at h
      obtain ⟨_, x2, x3, _, _⟩ := ix_of x
      obtain ⟨_, y2, y3, _, _⟩ := ix_of y
      have hl := lo_lt b
      have hh := hi_lt b
      have e1 : hexIx x = ((b >>> 4).toNat : Int) := by omega
      have e2 : hexIx y = ((b &&& 15#8).toNat : Int) := by omega
      have hx1 := x3 (by omega)
      have hy1 := y3 (by omega)
      rw [e1] at hx1
      rw [e2] at hy1
      have hx2 : hx (b >>> 4) = x := hx1
      have hy2 : hx (b &&& 15#8) = y := hy1
      rw [hx2, hy2]
theorem dec_lt (x y : BitVec 8) : -1 ≤ decP x y ∧ decP x y < 256 := by
  obtain ⟨x1, x2, _⟩ := ix_of x
  obtain ⟨y1, y2, _⟩ := ix_of y
  unfold decP
  split <;> omega
/-- The last byte below r whose hex is x, y. -/
def lastB (x y : BitVec 8) : Nat → Int
  | 0 => -1
  | r + 1 => if [hx (BitVec.ofNat 8 r >>> 4), hx (BitVec.ofNat 8 r &&& 15#8)] = [x, y] then (r : Int) else lastB x y r
theorem lastB_eq (x y : BitVec 8) : ∀ r, r ≤ 256 → lastB x y r = if 0 ≤ decP x y ∧ decP x y < r then decP x y else -1 := by
  intro r
  induction r with
  | zero => intro _; rw [if_neg (by omega)]; rfl
  | succ r ih =>
    intro hr
    have ht : (BitVec.ofNat 8 r).toNat = r := by rw [BitVec.toNat_ofNat]; omega
    have hi := dec_iff x y (BitVec.ofNat 8 r)
    rw [ht] at hi
    rw [lastB, ih (by omega)]
    by_cases h : decP x y = (r : Int)
    · rw [if_pos (hi.2 h), if_pos (by omega), h]
    · rw [if_neg (fun e => h (hi.1 e))]
      by_cases h2 : 0 ≤ decP x y ∧ decP x y < r
      · rw [if_pos h2, if_pos (by omega)]
      · rw [if_neg h2, if_neg (by omega)]
theorem lastB_all (x y : BitVec 8) : lastB x y 256 = decP x y := by
  have h := dec_lt x y
  rw [lastB_eq x y 256 (by omega)]
  split <;> omega
/-- The pairs from the front, as far as they are hex. -/
def unhexTo (s : List (BitVec 8)) : Nat → Option (List (BitVec 8))
  | 0 => some []
  | i + 1 => (unhexTo s i).bind fun l => if decP (s.getD (2 * i) 0) (s.getD (2 * i + 1) 0) < 0 then none else some (l ++ [BitVec.ofInt 8 (decP (s.getD (2 * i) 0) (s.getD (2 * i + 1) 0))])
theorem unhexTo_none (s : List (BitVec 8)) (i : Nat) (h : unhexTo s i = none) : ∀ j, unhexTo s (i + j) = none := by
  intro j
  induction j with
  | zero => exact h
  | succ j ih => rw [← Nat.add_assoc, unhexTo, ih]; rfl
theorem unhexTo_length (s : List (BitVec 8)) (i : Nat) : ∀ l, unhexTo s i = some l → l.length = i := by
  induction i with
  | zero => intro l h; injection h with h; subst h; rfl
  | succ i ih =>
    intro l h
    rw [unhexTo] at h
    cases hu : unhexTo s i with
    | none => rw [hu] at h; simp at h
    | some m =>
      rw [hu] at h
      simp only [Option.bind_some] at h
      split at h
      · simp at h
      · injection h with h; subst h; rw [List.length_append, ih m hu]; rfl
def unhexR (s : List (BitVec 8)) : V := if s.length % 2 = 1 then .tup [.str [], .i64 3] else match unhexTo s (s.length / 2) with
  | none => .tup [.str [], .i64 3]
  | some l => .tup [.str l, .i64 0]
theorem unhexR_bad (s : List (BitVec 8)) (i : Nat) (hi : 2 * i + 1 < s.length) (h : unhexTo s (i + 1) = none) : unhexR s = .tup [.str [], .i64 3] := by
  unfold unhexR
  split
  · rfl
  · have := unhexTo_none s (i + 1) h (s.length / 2 - (i + 1))
    rw [show i + 1 + (s.length / 2 - (i + 1)) = s.length / 2 by omega] at this
    rw [this]
theorem RUnhex_spec (s : List (BitVec 8)) (hs : s.length ≤ 140737488351232) : PureFn Try.prog 26 [.str s] (unhexR s) := by
  have hlow : (unhexR s).low 0 := by
    unfold unhexR
    split
    · simp [lows, V.low]
    · split <;> simp [lows, V.low]
  refine pure_of_vc (by kernel_rfl) (fn := Try.f26) (by kernel_rfl) Try.func26 rfl (by show 1 ≤ 42; decide) (by simp [hlow, lows, V.low]) (by simp [hlow, lows, V.low, lows_ite, low_ite]) (go_start ?_)
  simp only [go_sem, ↓reduceIte, Nat.reduceEqDiff, Nat.reduceLT, Nat.reduceLeDiff, Nat.reduceAdd, Nat.reduceSub, Nat.reduceMul, Nat.reduceMod, Nat.reduceDiv, Int.reduceLE, Int.reduceLT, Int.reduceToNat, Int.reduceAdd, Int.reduceSub, Int.reduceMul, Int.reduceEq, Int.reduceNeg, BitVec.reduceOfInt, BitVec.reduceToNat, BitVec.reduceEq, BitVec.reduceNe, BitVec.reduceLT, reduceCtorEq, and_true, true_and, and_self, Nat.succ_ne_self, decide_true, decide_false, Bool.false_eq_true, Nat.one_ne_zero, Nat.zero_ne_one, Nat.not_lt_zero, Nat.zero_lt_succ, ge_iff_le, gt_iff_lt, decide_eq_true_eq, Option.some.injEq, List.getElem?_cons_zero, List.getElem?_cons_succ, List.length_cons, List.length_nil, Int.natCast_zero, List.map_cons, List.map_nil, List.append_nil, List.nil_append, List.cons_append, vconv, Option.map_some, Option.map_none, List.getD_cons_zero, List.getD_cons_succ, List.not_mem_nil, false_implies, implies_true, List.getElem?_toArray, Option.bind_some, List.set_cons_zero, List.set_cons_succ, List.take_succ_cons, List.take_zero, List.drop_succ_cons, List.drop_zero, List.drop_nil, List.take_nil, List.forall_mem_cons, List.forall_mem_nil, V.u8.injEq, exists_eq', Nat.zero_mul, Nat.one_mul, Nat.zero_add, Nat.mul_one, Nat.add_zero, Int.toNat_natCast, Int.cast_ofNat_Int, ne_eq, not_true_eq_false, not_false_eq_true, List.length_set, List.length_append, List.length_take, List.length_drop, List.length_replicate, Option.isSome_none, Option.isSome_some, w64_of, Bool.not_true, Bool.not_false, Bool.true_and, Bool.false_and, Bool.and_true, Bool.and_false, Bool.true_or, Bool.false_or, Bool.or_true, Bool.or_false, Bool.not_eq_true', decide_eq_false_iff_not, beq_self_eq_true, List.take_length, Nat.le_refl, Int.le_refl, Blk.mk.injEq, Try.ntmps26, Try.results26]
  refine go_loop (fun j st => ∃ i l, i + j = s.length ∧ 2 * i ≤ s.length + 1 ∧ (2 * i ≤ s.length ∨ s.length % 2 = 0) ∧ unhexTo s i = some l ∧ st = ⟨[(0, .str s), (4, .str l), (5, .i64 ((2 * i : Nat) : Int))], []⟩) ?_ ?_
  · exact start_mk s.length ⟨[(0, .str s), (4, .str []), (5, .i64 ((2 * 0 : Nat) : Int))], []⟩ (by simp [St.get, lookS]) rfl (fun _ _ h => h) ⟨0, [], by omega, by omega, by omega, rfl, rfl⟩
  rintro j st ⟨i, l, hi, h2i, hpar, hu, rfl⟩ _
  have hul := unhexTo_length s i l hu
  by_cases h0 : 2 * i < s.length
  · have h0' : ((2 * i : Nat) : Int) < (s.length : Int) := by omega
    have e1 : w64 (((2 * i : Nat) : Int) + 1) = ((2 * i + 1 : Nat) : Int) := by rw [w64_of (by omega) (by omega)]; omega
    have e2 : w64 (((2 * i : Nat) : Int) + 2) = ((2 * i + 2 : Nat) : Int) := by rw [w64_of (by omega) (by omega)]; omega
    simp only [go_sem, ↓reduceIte, Nat.reduceEqDiff, Nat.reduceLT, Nat.reduceLeDiff, Nat.reduceAdd, Nat.reduceSub, Nat.reduceMul, Nat.reduceMod, Nat.reduceDiv, Int.reduceLE, Int.reduceLT, Int.reduceToNat, Int.reduceAdd, Int.reduceSub, Int.reduceMul, Int.reduceEq, Int.reduceNeg, BitVec.reduceOfInt, BitVec.reduceToNat, BitVec.reduceEq, BitVec.reduceNe, BitVec.reduceLT, reduceCtorEq, and_true, true_and, and_self, Nat.succ_ne_self, decide_true, decide_false, Bool.false_eq_true, Nat.one_ne_zero, Nat.zero_ne_one, Nat.not_lt_zero, Nat.zero_lt_succ, ge_iff_le, gt_iff_lt, decide_eq_true_eq, Option.some.injEq, List.getElem?_cons_zero, List.getElem?_cons_succ, List.length_cons, List.length_nil, Int.natCast_zero, List.map_cons, List.map_nil, List.append_nil, List.nil_append, List.cons_append, vconv, Option.map_some, Option.map_none, List.getD_cons_zero, List.getD_cons_succ, List.not_mem_nil, false_implies, implies_true, List.getElem?_toArray, Option.bind_some, List.set_cons_zero, List.set_cons_succ, List.take_succ_cons, List.take_zero, List.drop_succ_cons, List.drop_zero, List.drop_nil, List.take_nil, List.forall_mem_cons, List.forall_mem_nil, V.u8.injEq, exists_eq', Nat.zero_mul, Nat.one_mul, Nat.zero_add, Nat.mul_one, Nat.add_zero, Int.toNat_natCast, Int.cast_ofNat_Int, ne_eq, not_true_eq_false, not_false_eq_true, List.length_set, List.length_append, List.length_take, List.length_drop, List.length_replicate, Option.isSome_none, Option.isSome_some, w64_of, Bool.not_true, Bool.not_false, Bool.true_and, Bool.false_and, Bool.and_true, Bool.and_false, Bool.true_or, Bool.false_or, Bool.or_true, Bool.or_false, Bool.not_eq_true', decide_eq_false_iff_not, beq_self_eq_true, List.take_length, Nat.le_refl, Int.le_refl, Blk.mk.injEq, h0']
    by_cases h1 : 2 * i + 1 < s.length
    · have h1' : ((2 * i + 1 : Nat) : Int) < (s.length : Int) := by omega
      have hsl : (s.take (2 * i + 2)).drop (2 * i) = [s.getD (2 * i) 0, s.getD (2 * i + 1) 0] := by
        rw [take_snoc h1, List.drop_append_of_le_length (by rw [List.length_take]; omega), slice1 h0]; rfl
      have g1 : ((2 * i : Nat) : Int) ≤ ((2 * i + 2 : Nat) : Int) := by omega
      have g2 : ((2 * i + 2 : Nat) : Int) ≤ (s.length : Int) := by omega
      have g3 : (0 : Int) ≤ ((2 * i : Nat) : Int) := by omega
      generalize hx0 : s.getD (2 * i) 0 = x at hsl
      generalize hy0 : s.getD (2 * i + 1) 0 = y at hsl
      refine go_loop (fun jr st => ∃ r : Nat, r + jr = 256 ∧ st = ⟨[(0, .str s), (4, .str l), (5, .i64 ((2 * i : Nat) : Int)), (6, .i64 (lastB x y r)), (14, .i64 r)], []⟩) ?_ ?_
      · exact start_mk (256) ⟨[(0, .str s), (4, .str l), (5, .i64 ((2 * i : Nat) : Int)), (6, .i64 (lastB x y (0 : Nat))), (14, .i64 (0 : Nat))], []⟩ (by simp [St.get, lookS, -List.map_set, -List.map_map, lastB]) rfl (fun _ _ h => h) ⟨0, by omega, rfl⟩
      rintro jr st ⟨r, hr, rfl⟩ _
      simp only [go_sem, ↓reduceIte, Nat.reduceEqDiff, Nat.reduceLT, Nat.reduceLeDiff, Nat.reduceAdd, Nat.reduceSub, Nat.reduceMul, Nat.reduceMod, Nat.reduceDiv, Int.reduceLE, Int.reduceLT, Int.reduceToNat, Int.reduceAdd, Int.reduceSub, Int.reduceMul, Int.reduceEq, Int.reduceNeg, BitVec.reduceOfInt, BitVec.reduceToNat, BitVec.reduceEq, BitVec.reduceNe, BitVec.reduceLT, reduceCtorEq, and_true, true_and, and_self, Nat.succ_ne_self, decide_true, decide_false, Bool.false_eq_true, Nat.one_ne_zero, Nat.zero_ne_one, Nat.not_lt_zero, Nat.zero_lt_succ, ge_iff_le, gt_iff_lt, decide_eq_true_eq, Option.some.injEq, List.getElem?_cons_zero, List.getElem?_cons_succ, List.length_cons, List.length_nil, Int.natCast_zero, List.map_cons, List.map_nil, List.append_nil, List.nil_append, List.cons_append, vconv, Option.map_some, Option.map_none, List.getD_cons_zero, List.getD_cons_succ, List.not_mem_nil, false_implies, implies_true, List.getElem?_toArray, Option.bind_some, List.set_cons_zero, List.set_cons_succ, List.take_succ_cons, List.take_zero, List.drop_succ_cons, List.drop_zero, List.drop_nil, List.take_nil, List.forall_mem_cons, List.forall_mem_nil, V.u8.injEq, exists_eq', Nat.zero_mul, Nat.one_mul, Nat.zero_add, Nat.mul_one, Nat.add_zero, Int.toNat_natCast, Int.cast_ofNat_Int, ne_eq, not_true_eq_false, not_false_eq_true, List.length_set, List.length_append, List.length_take, List.length_drop, List.length_replicate, Option.isSome_none, Option.isSome_some, w64_of, Bool.not_true, Bool.not_false, Bool.true_and, Bool.false_and, Bool.and_true, Bool.and_false, Bool.true_or, Bool.false_or, Bool.or_true, Bool.or_false, Bool.not_eq_true', decide_eq_false_iff_not, beq_self_eq_true, List.take_length, Nat.le_refl, Int.le_refl, Blk.mk.injEq]
      by_cases hr0 : r < 256
      · have hr0' : (r : Int) < 256 := by omega
        have hch := chr_spec (r : Int)
        have hrb : BitVec.ofInt 8 (r : Int) = BitVec.ofNat 8 r := by simp
        rw [hrb] at hch
        have hhx := RHex_spec [BitVec.ofNat 8 r] (by simp)
        have hh1 : hexB [BitVec.ofNat 8 r] = [hx (BitVec.ofNat 8 r >>> 4), hx (BitVec.ofNat 8 r &&& 15#8)] := rfl
        rw [hh1] at hhx
        simp only [go_sem, ↓reduceIte, Nat.reduceEqDiff, Nat.reduceLT, Nat.reduceLeDiff, Nat.reduceAdd, Nat.reduceSub, Nat.reduceMul, Nat.reduceMod, Nat.reduceDiv, Int.reduceLE, Int.reduceLT, Int.reduceToNat, Int.reduceAdd, Int.reduceSub, Int.reduceMul, Int.reduceEq, Int.reduceNeg, BitVec.reduceOfInt, BitVec.reduceToNat, BitVec.reduceEq, BitVec.reduceNe, BitVec.reduceLT, reduceCtorEq, and_true, true_and, and_self, Nat.succ_ne_self, decide_true, decide_false, Bool.false_eq_true, Nat.one_ne_zero, Nat.zero_ne_one, Nat.not_lt_zero, Nat.zero_lt_succ, ge_iff_le, gt_iff_lt, decide_eq_true_eq, Option.some.injEq, List.getElem?_cons_zero, List.getElem?_cons_succ, List.length_cons, List.length_nil, Int.natCast_zero, List.map_cons, List.map_nil, List.append_nil, List.nil_append, List.cons_append, vconv, Option.map_some, Option.map_none, List.getD_cons_zero, List.getD_cons_succ, List.not_mem_nil, false_implies, implies_true, List.getElem?_toArray, Option.bind_some, List.set_cons_zero, List.set_cons_succ, List.take_succ_cons, List.take_zero, List.drop_succ_cons, List.drop_zero, List.drop_nil, List.take_nil, List.forall_mem_cons, List.forall_mem_nil, V.u8.injEq, exists_eq', Nat.zero_mul, Nat.one_mul, Nat.zero_add, Nat.mul_one, Nat.add_zero, Int.toNat_natCast, Int.cast_ofNat_Int, ne_eq, not_true_eq_false, not_false_eq_true, List.length_set, List.length_append, List.length_take, List.length_drop, List.length_replicate, Option.isSome_none, Option.isSome_some, w64_of, Bool.not_true, Bool.not_false, Bool.true_and, Bool.false_and, Bool.and_true, Bool.and_false, Bool.true_or, Bool.false_or, Bool.or_true, Bool.or_false, Bool.not_eq_true', decide_eq_false_iff_not, beq_self_eq_true, List.take_length, Nat.le_refl, Int.le_refl, Blk.mk.injEq, hr0', e1, e2, h1', g1, g2, g3]
        refine goCallD_pure0 (hch) ?_
        simp only [go_sem, ↓reduceIte, Nat.reduceEqDiff, Nat.reduceLT, Nat.reduceLeDiff, Nat.reduceAdd, Nat.reduceSub, Nat.reduceMul, Nat.reduceMod, Nat.reduceDiv, Int.reduceLE, Int.reduceLT, Int.reduceToNat, Int.reduceAdd, Int.reduceSub, Int.reduceMul, Int.reduceEq, Int.reduceNeg, BitVec.reduceOfInt, BitVec.reduceToNat, BitVec.reduceEq, BitVec.reduceNe, BitVec.reduceLT, reduceCtorEq, and_true, true_and, and_self, Nat.succ_ne_self, decide_true, decide_false, Bool.false_eq_true, Nat.one_ne_zero, Nat.zero_ne_one, Nat.not_lt_zero, Nat.zero_lt_succ, ge_iff_le, gt_iff_lt, decide_eq_true_eq, Option.some.injEq, List.getElem?_cons_zero, List.getElem?_cons_succ, List.length_cons, List.length_nil, Int.natCast_zero, List.map_cons, List.map_nil, List.append_nil, List.nil_append, List.cons_append, vconv, Option.map_some, Option.map_none, List.getD_cons_zero, List.getD_cons_succ, List.not_mem_nil, false_implies, implies_true, List.getElem?_toArray, Option.bind_some, List.set_cons_zero, List.set_cons_succ, List.take_succ_cons, List.take_zero, List.drop_succ_cons, List.drop_zero, List.drop_nil, List.take_nil, List.forall_mem_cons, List.forall_mem_nil, V.u8.injEq, exists_eq', Nat.zero_mul, Nat.one_mul, Nat.zero_add, Nat.mul_one, Nat.add_zero, Int.toNat_natCast, Int.cast_ofNat_Int, ne_eq, not_true_eq_false, not_false_eq_true, List.length_set, List.length_append, List.length_take, List.length_drop, List.length_replicate, Option.isSome_none, Option.isSome_some, w64_of, Bool.not_true, Bool.not_false, Bool.true_and, Bool.false_and, Bool.and_true, Bool.and_false, Bool.true_or, Bool.false_or, Bool.or_true, Bool.or_false, Bool.not_eq_true', decide_eq_false_iff_not, beq_self_eq_true, List.take_length, Nat.le_refl, Int.le_refl, Blk.mk.injEq, hr0', e1, e2, h1', g1, g2, g3]
        refine goCallD_pure0 (hhx) ?_
        simp only [go_sem, ↓reduceIte, Nat.reduceEqDiff, Nat.reduceLT, Nat.reduceLeDiff, Nat.reduceAdd, Nat.reduceSub, Nat.reduceMul, Nat.reduceMod, Nat.reduceDiv, Int.reduceLE, Int.reduceLT, Int.reduceToNat, Int.reduceAdd, Int.reduceSub, Int.reduceMul, Int.reduceEq, Int.reduceNeg, BitVec.reduceOfInt, BitVec.reduceToNat, BitVec.reduceEq, BitVec.reduceNe, BitVec.reduceLT, reduceCtorEq, and_true, true_and, and_self, Nat.succ_ne_self, decide_true, decide_false, Bool.false_eq_true, Nat.one_ne_zero, Nat.zero_ne_one, Nat.not_lt_zero, Nat.zero_lt_succ, ge_iff_le, gt_iff_lt, decide_eq_true_eq, Option.some.injEq, List.getElem?_cons_zero, List.getElem?_cons_succ, List.length_cons, List.length_nil, Int.natCast_zero, List.map_cons, List.map_nil, List.append_nil, List.nil_append, List.cons_append, vconv, Option.map_some, Option.map_none, List.getD_cons_zero, List.getD_cons_succ, List.not_mem_nil, false_implies, implies_true, List.getElem?_toArray, Option.bind_some, List.set_cons_zero, List.set_cons_succ, List.take_succ_cons, List.take_zero, List.drop_succ_cons, List.drop_zero, List.drop_nil, List.take_nil, List.forall_mem_cons, List.forall_mem_nil, V.u8.injEq, exists_eq', Nat.zero_mul, Nat.one_mul, Nat.zero_add, Nat.mul_one, Nat.add_zero, Int.toNat_natCast, Int.cast_ofNat_Int, ne_eq, not_true_eq_false, not_false_eq_true, List.length_set, List.length_append, List.length_take, List.length_drop, List.length_replicate, Option.isSome_none, Option.isSome_some, w64_of, Bool.not_true, Bool.not_false, Bool.true_and, Bool.false_and, Bool.and_true, Bool.and_false, Bool.true_or, Bool.false_or, Bool.or_true, Bool.or_false, Bool.not_eq_true', decide_eq_false_iff_not, beq_self_eq_true, List.take_length, Nat.le_refl, Int.le_refl, Blk.mk.injEq, hr0', e1, e2, h1', g1, g2, g3, hsl]
        refine ⟨by kernel_rfl, ?_⟩
        by_cases hq : [hx (BitVec.ofNat 8 r >>> 4), hx (BitVec.ofNat 8 r &&& 15#8)] = [x, y]
        · have hlb : lastB x y (r + 1) = (r : Int) := by rw [lastB, if_pos hq]
          simp only [go_sem, ↓reduceIte, Nat.reduceEqDiff, Nat.reduceLT, Nat.reduceLeDiff, Nat.reduceAdd, Nat.reduceSub, Nat.reduceMul, Nat.reduceMod, Nat.reduceDiv, Int.reduceLE, Int.reduceLT, Int.reduceToNat, Int.reduceAdd, Int.reduceSub, Int.reduceMul, Int.reduceEq, Int.reduceNeg, BitVec.reduceOfInt, BitVec.reduceToNat, BitVec.reduceEq, BitVec.reduceNe, BitVec.reduceLT, reduceCtorEq, and_true, true_and, and_self, Nat.succ_ne_self, decide_true, decide_false, Bool.false_eq_true, Nat.one_ne_zero, Nat.zero_ne_one, Nat.not_lt_zero, Nat.zero_lt_succ, ge_iff_le, gt_iff_lt, decide_eq_true_eq, Option.some.injEq, List.getElem?_cons_zero, List.getElem?_cons_succ, List.length_cons, List.length_nil, Int.natCast_zero, List.map_cons, List.map_nil, List.append_nil, List.nil_append, List.cons_append, vconv, Option.map_some, Option.map_none, List.getD_cons_zero, List.getD_cons_succ, List.not_mem_nil, false_implies, implies_true, List.getElem?_toArray, Option.bind_some, List.set_cons_zero, List.set_cons_succ, List.take_succ_cons, List.take_zero, List.drop_succ_cons, List.drop_zero, List.drop_nil, List.take_nil, List.forall_mem_cons, List.forall_mem_nil, V.u8.injEq, exists_eq', Nat.zero_mul, Nat.one_mul, Nat.zero_add, Nat.mul_one, Nat.add_zero, Int.toNat_natCast, Int.cast_ofNat_Int, ne_eq, not_true_eq_false, not_false_eq_true, List.length_set, List.length_append, List.length_take, List.length_drop, List.length_replicate, Option.isSome_none, Option.isSome_some, w64_of, Bool.not_true, Bool.not_false, Bool.true_and, Bool.false_and, Bool.and_true, Bool.and_false, Bool.true_or, Bool.false_or, Bool.or_true, Bool.or_false, Bool.not_eq_true', decide_eq_false_iff_not, beq_self_eq_true, List.take_length, Nat.le_refl, Int.le_refl, Blk.mk.injEq, hq]
          refine again_mk (jr - 1) ⟨[(0, .str s), (4, .str l), (5, .i64 ((2 * i : Nat) : Int)), (6, .i64 (lastB x y (r + 1 : Nat))), (14, .i64 (r + 1 : Nat))], []⟩ (by omega) ?_ rfl (fun _ _ h => h) ⟨r + 1, by omega, rfl⟩
          have hw1 : w64 ((r : Int) + 1) = ((r + 1 : Nat) : Int) := by rw [w64_of (by omega) (by omega)]; omega
          simp [St.get, lookS, hw1, -List.map_set, -List.map_map, hlb]
        · have hlb : lastB x y (r + 1) = lastB x y r := by rw [lastB, if_neg hq]
          simp only [go_sem, ↓reduceIte, Nat.reduceEqDiff, Nat.reduceLT, Nat.reduceLeDiff, Nat.reduceAdd, Nat.reduceSub, Nat.reduceMul, Nat.reduceMod, Nat.reduceDiv, Int.reduceLE, Int.reduceLT, Int.reduceToNat, Int.reduceAdd, Int.reduceSub, Int.reduceMul, Int.reduceEq, Int.reduceNeg, BitVec.reduceOfInt, BitVec.reduceToNat, BitVec.reduceEq, BitVec.reduceNe, BitVec.reduceLT, reduceCtorEq, and_true, true_and, and_self, Nat.succ_ne_self, decide_true, decide_false, Bool.false_eq_true, Nat.one_ne_zero, Nat.zero_ne_one, Nat.not_lt_zero, Nat.zero_lt_succ, ge_iff_le, gt_iff_lt, decide_eq_true_eq, Option.some.injEq, List.getElem?_cons_zero, List.getElem?_cons_succ, List.length_cons, List.length_nil, Int.natCast_zero, List.map_cons, List.map_nil, List.append_nil, List.nil_append, List.cons_append, vconv, Option.map_some, Option.map_none, List.getD_cons_zero, List.getD_cons_succ, List.not_mem_nil, false_implies, implies_true, List.getElem?_toArray, Option.bind_some, List.set_cons_zero, List.set_cons_succ, List.take_succ_cons, List.take_zero, List.drop_succ_cons, List.drop_zero, List.drop_nil, List.take_nil, List.forall_mem_cons, List.forall_mem_nil, V.u8.injEq, exists_eq', Nat.zero_mul, Nat.one_mul, Nat.zero_add, Nat.mul_one, Nat.add_zero, Int.toNat_natCast, Int.cast_ofNat_Int, ne_eq, not_true_eq_false, not_false_eq_true, List.length_set, List.length_append, List.length_take, List.length_drop, List.length_replicate, Option.isSome_none, Option.isSome_some, w64_of, Bool.not_true, Bool.not_false, Bool.true_and, Bool.false_and, Bool.and_true, Bool.and_false, Bool.true_or, Bool.false_or, Bool.or_true, Bool.or_false, Bool.not_eq_true', decide_eq_false_iff_not, beq_self_eq_true, List.take_length, Nat.le_refl, Int.le_refl, Blk.mk.injEq, hq]
          refine again_mk (jr - 1) ⟨[(0, .str s), (4, .str l), (5, .i64 ((2 * i : Nat) : Int)), (6, .i64 (lastB x y (r + 1 : Nat))), (14, .i64 (r + 1 : Nat))], []⟩ (by omega) ?_ rfl (fun _ _ h => h) ⟨r + 1, by omega, rfl⟩
          have hw1 : w64 ((r : Int) + 1) = ((r + 1 : Nat) : Int) := by rw [w64_of (by omega) (by omega)]; omega
          simp [St.get, lookS, hw1, -List.map_set, -List.map_map, hlb]
      · obtain rfl : r = 256 := by omega
        have hr0' : ¬ ((256 : Nat) : Int) < 256 := by omega
        have hdl := dec_lt x y
        rw [lastB_all x y]
        by_cases hneg : decP x y < 0
        · have hbad := unhexR_bad s i h1 (by rw [unhexTo, hu, hx0, hy0]; simp [hneg])
          simp only [go_sem, ↓reduceIte, Nat.reduceEqDiff, Nat.reduceLT, Nat.reduceLeDiff, Nat.reduceAdd, Nat.reduceSub, Nat.reduceMul, Nat.reduceMod, Nat.reduceDiv, Int.reduceLE, Int.reduceLT, Int.reduceToNat, Int.reduceAdd, Int.reduceSub, Int.reduceMul, Int.reduceEq, Int.reduceNeg, BitVec.reduceOfInt, BitVec.reduceToNat, BitVec.reduceEq, BitVec.reduceNe, BitVec.reduceLT, reduceCtorEq, and_true, true_and, and_self, Nat.succ_ne_self, decide_true, decide_false, Bool.false_eq_true, Nat.one_ne_zero, Nat.zero_ne_one, Nat.not_lt_zero, Nat.zero_lt_succ, ge_iff_le, gt_iff_lt, decide_eq_true_eq, Option.some.injEq, List.getElem?_cons_zero, List.getElem?_cons_succ, List.length_cons, List.length_nil, Int.natCast_zero, List.map_cons, List.map_nil, List.append_nil, List.nil_append, List.cons_append, vconv, Option.map_some, Option.map_none, List.getD_cons_zero, List.getD_cons_succ, List.not_mem_nil, false_implies, implies_true, List.getElem?_toArray, Option.bind_some, List.set_cons_zero, List.set_cons_succ, List.take_succ_cons, List.take_zero, List.drop_succ_cons, List.drop_zero, List.drop_nil, List.take_nil, List.forall_mem_cons, List.forall_mem_nil, V.u8.injEq, exists_eq', Nat.zero_mul, Nat.one_mul, Nat.zero_add, Nat.mul_one, Nat.add_zero, Int.toNat_natCast, Int.cast_ofNat_Int, ne_eq, not_true_eq_false, not_false_eq_true, List.length_set, List.length_append, List.length_take, List.length_drop, List.length_replicate, Option.isSome_none, Option.isSome_some, w64_of, Bool.not_true, Bool.not_false, Bool.true_and, Bool.false_and, Bool.and_true, Bool.and_false, Bool.true_or, Bool.false_or, Bool.or_true, Bool.or_false, Bool.not_eq_true', decide_eq_false_iff_not, beq_self_eq_true, List.take_length, Nat.le_refl, Int.le_refl, Blk.mk.injEq, hr0', hneg, hbad]
        · have hgood : unhexTo s (i + 1) = some (l ++ [BitVec.ofInt 8 (decP x y)]) := by rw [unhexTo, hu, hx0, hy0]; simp [hneg]
          simp only [go_sem, ↓reduceIte, Nat.reduceEqDiff, Nat.reduceLT, Nat.reduceLeDiff, Nat.reduceAdd, Nat.reduceSub, Nat.reduceMul, Nat.reduceMod, Nat.reduceDiv, Int.reduceLE, Int.reduceLT, Int.reduceToNat, Int.reduceAdd, Int.reduceSub, Int.reduceMul, Int.reduceEq, Int.reduceNeg, BitVec.reduceOfInt, BitVec.reduceToNat, BitVec.reduceEq, BitVec.reduceNe, BitVec.reduceLT, reduceCtorEq, and_true, true_and, and_self, Nat.succ_ne_self, decide_true, decide_false, Bool.false_eq_true, Nat.one_ne_zero, Nat.zero_ne_one, Nat.not_lt_zero, Nat.zero_lt_succ, ge_iff_le, gt_iff_lt, decide_eq_true_eq, Option.some.injEq, List.getElem?_cons_zero, List.getElem?_cons_succ, List.length_cons, List.length_nil, Int.natCast_zero, List.map_cons, List.map_nil, List.append_nil, List.nil_append, List.cons_append, vconv, Option.map_some, Option.map_none, List.getD_cons_zero, List.getD_cons_succ, List.not_mem_nil, false_implies, implies_true, List.getElem?_toArray, Option.bind_some, List.set_cons_zero, List.set_cons_succ, List.take_succ_cons, List.take_zero, List.drop_succ_cons, List.drop_zero, List.drop_nil, List.take_nil, List.forall_mem_cons, List.forall_mem_nil, V.u8.injEq, exists_eq', Nat.zero_mul, Nat.one_mul, Nat.zero_add, Nat.mul_one, Nat.add_zero, Int.toNat_natCast, Int.cast_ofNat_Int, ne_eq, not_true_eq_false, not_false_eq_true, List.length_set, List.length_append, List.length_take, List.length_drop, List.length_replicate, Option.isSome_none, Option.isSome_some, w64_of, Bool.not_true, Bool.not_false, Bool.true_and, Bool.false_and, Bool.and_true, Bool.and_false, Bool.true_or, Bool.false_or, Bool.or_true, Bool.or_false, Bool.not_eq_true', decide_eq_false_iff_not, beq_self_eq_true, List.take_length, Nat.le_refl, Int.le_refl, Blk.mk.injEq, hr0', hneg]
          refine goCall_pure0 (chr_spec _) ?_
          simp only [go_sem, ↓reduceIte, Nat.reduceEqDiff, Nat.reduceLT, Nat.reduceLeDiff, Nat.reduceAdd, Nat.reduceSub, Nat.reduceMul, Nat.reduceMod, Nat.reduceDiv, Int.reduceLE, Int.reduceLT, Int.reduceToNat, Int.reduceAdd, Int.reduceSub, Int.reduceMul, Int.reduceEq, Int.reduceNeg, BitVec.reduceOfInt, BitVec.reduceToNat, BitVec.reduceEq, BitVec.reduceNe, BitVec.reduceLT, reduceCtorEq, and_true, true_and, and_self, Nat.succ_ne_self, decide_true, decide_false, Bool.false_eq_true, Nat.one_ne_zero, Nat.zero_ne_one, Nat.not_lt_zero, Nat.zero_lt_succ, ge_iff_le, gt_iff_lt, decide_eq_true_eq, Option.some.injEq, List.getElem?_cons_zero, List.getElem?_cons_succ, List.length_cons, List.length_nil, Int.natCast_zero, List.map_cons, List.map_nil, List.append_nil, List.nil_append, List.cons_append, vconv, Option.map_some, Option.map_none, List.getD_cons_zero, List.getD_cons_succ, List.not_mem_nil, false_implies, implies_true, List.getElem?_toArray, Option.bind_some, List.set_cons_zero, List.set_cons_succ, List.take_succ_cons, List.take_zero, List.drop_succ_cons, List.drop_zero, List.drop_nil, List.take_nil, List.forall_mem_cons, List.forall_mem_nil, V.u8.injEq, exists_eq', Nat.zero_mul, Nat.one_mul, Nat.zero_add, Nat.mul_one, Nat.add_zero, Int.toNat_natCast, Int.cast_ofNat_Int, ne_eq, not_true_eq_false, not_false_eq_true, List.length_set, List.length_append, List.length_take, List.length_drop, List.length_replicate, Option.isSome_none, Option.isSome_some, w64_of, Bool.not_true, Bool.not_false, Bool.true_and, Bool.false_and, Bool.and_true, Bool.and_false, Bool.true_or, Bool.false_or, Bool.or_true, Bool.or_false, Bool.not_eq_true', decide_eq_false_iff_not, beq_self_eq_true, List.take_length, Nat.le_refl, Int.le_refl, Blk.mk.injEq, e2, hul]
          refine ⟨by omega, ?_⟩
          exact again_mk (j - 1) ⟨[(0, .str s), (4, .str (l ++ [BitVec.ofInt 8 (decP x y)])), (5, .i64 ((2 * (i + 1) : Nat) : Int))], []⟩ (by omega) (by simp [St.get, lookS, Nat.mul_add]) rfl (fun _ _ h => h) ⟨i + 1, _, by omega, by omega, by omega, hgood, rfl⟩
    · have h1' : ¬ ((2 * i + 1 : Nat) : Int) < (s.length : Int) := by omega
      have hbad : unhexR s = .tup [.str [], .i64 3] := by unfold unhexR; rw [if_pos (by omega)]
      refine go_loop (fun jr st => ∃ r : Nat, r + jr = 256 ∧ st = ⟨[(0, .str s), (4, .str l), (5, .i64 ((2 * i : Nat) : Int)), (6, .i64 (-1)), (14, .i64 r)], []⟩) ?_ ?_
      · exact start_mk (256) ⟨[(0, .str s), (4, .str l), (5, .i64 ((2 * i : Nat) : Int)), (6, .i64 (-1)), (14, .i64 (0 : Nat))], []⟩ (by simp [St.get, lookS, -List.map_set, -List.map_map]) rfl (fun _ _ h => h) ⟨0, by omega, rfl⟩
      rintro jr st ⟨r, hr, rfl⟩ _
      simp only [go_sem, ↓reduceIte, Nat.reduceEqDiff, Nat.reduceLT, Nat.reduceLeDiff, Nat.reduceAdd, Nat.reduceSub, Nat.reduceMul, Nat.reduceMod, Nat.reduceDiv, Int.reduceLE, Int.reduceLT, Int.reduceToNat, Int.reduceAdd, Int.reduceSub, Int.reduceMul, Int.reduceEq, Int.reduceNeg, BitVec.reduceOfInt, BitVec.reduceToNat, BitVec.reduceEq, BitVec.reduceNe, BitVec.reduceLT, reduceCtorEq, and_true, true_and, and_self, Nat.succ_ne_self, decide_true, decide_false, Bool.false_eq_true, Nat.one_ne_zero, Nat.zero_ne_one, Nat.not_lt_zero, Nat.zero_lt_succ, ge_iff_le, gt_iff_lt, decide_eq_true_eq, Option.some.injEq, List.getElem?_cons_zero, List.getElem?_cons_succ, List.length_cons, List.length_nil, Int.natCast_zero, List.map_cons, List.map_nil, List.append_nil, List.nil_append, List.cons_append, vconv, Option.map_some, Option.map_none, List.getD_cons_zero, List.getD_cons_succ, List.not_mem_nil, false_implies, implies_true, List.getElem?_toArray, Option.bind_some, List.set_cons_zero, List.set_cons_succ, List.take_succ_cons, List.take_zero, List.drop_succ_cons, List.drop_zero, List.drop_nil, List.take_nil, List.forall_mem_cons, List.forall_mem_nil, V.u8.injEq, exists_eq', Nat.zero_mul, Nat.one_mul, Nat.zero_add, Nat.mul_one, Nat.add_zero, Int.toNat_natCast, Int.cast_ofNat_Int, ne_eq, not_true_eq_false, not_false_eq_true, List.length_set, List.length_append, List.length_take, List.length_drop, List.length_replicate, Option.isSome_none, Option.isSome_some, w64_of, Bool.not_true, Bool.not_false, Bool.true_and, Bool.false_and, Bool.and_true, Bool.and_false, Bool.true_or, Bool.false_or, Bool.or_true, Bool.or_false, Bool.not_eq_true', decide_eq_false_iff_not, beq_self_eq_true, List.take_length, Nat.le_refl, Int.le_refl, Blk.mk.injEq]
      by_cases hr0 : r < 256
      · have hr0' : (r : Int) < 256 := by omega
        simp only [go_sem, ↓reduceIte, Nat.reduceEqDiff, Nat.reduceLT, Nat.reduceLeDiff, Nat.reduceAdd, Nat.reduceSub, Nat.reduceMul, Nat.reduceMod, Nat.reduceDiv, Int.reduceLE, Int.reduceLT, Int.reduceToNat, Int.reduceAdd, Int.reduceSub, Int.reduceMul, Int.reduceEq, Int.reduceNeg, BitVec.reduceOfInt, BitVec.reduceToNat, BitVec.reduceEq, BitVec.reduceNe, BitVec.reduceLT, reduceCtorEq, and_true, true_and, and_self, Nat.succ_ne_self, decide_true, decide_false, Bool.false_eq_true, Nat.one_ne_zero, Nat.zero_ne_one, Nat.not_lt_zero, Nat.zero_lt_succ, ge_iff_le, gt_iff_lt, decide_eq_true_eq, Option.some.injEq, List.getElem?_cons_zero, List.getElem?_cons_succ, List.length_cons, List.length_nil, Int.natCast_zero, List.map_cons, List.map_nil, List.append_nil, List.nil_append, List.cons_append, vconv, Option.map_some, Option.map_none, List.getD_cons_zero, List.getD_cons_succ, List.not_mem_nil, false_implies, implies_true, List.getElem?_toArray, Option.bind_some, List.set_cons_zero, List.set_cons_succ, List.take_succ_cons, List.take_zero, List.drop_succ_cons, List.drop_zero, List.drop_nil, List.take_nil, List.forall_mem_cons, List.forall_mem_nil, V.u8.injEq, exists_eq', Nat.zero_mul, Nat.one_mul, Nat.zero_add, Nat.mul_one, Nat.add_zero, Int.toNat_natCast, Int.cast_ofNat_Int, ne_eq, not_true_eq_false, not_false_eq_true, List.length_set, List.length_append, List.length_take, List.length_drop, List.length_replicate, Option.isSome_none, Option.isSome_some, w64_of, Bool.not_true, Bool.not_false, Bool.true_and, Bool.false_and, Bool.and_true, Bool.and_false, Bool.true_or, Bool.false_or, Bool.or_true, Bool.or_false, Bool.not_eq_true', decide_eq_false_iff_not, beq_self_eq_true, List.take_length, Nat.le_refl, Int.le_refl, Blk.mk.injEq, hr0', e1, e2, h1']
        refine ⟨by kernel_rfl, ?_⟩
        refine again_mk (jr - 1) ⟨[(0, .str s), (4, .str l), (5, .i64 ((2 * i : Nat) : Int)), (6, .i64 (-1)), (14, .i64 (r + 1 : Nat))], []⟩ (by omega) ?_ rfl (fun _ _ h => h) ⟨r + 1, by omega, rfl⟩
        have hw1 : w64 ((r : Int) + 1) = ((r + 1 : Nat) : Int) := by rw [w64_of (by omega) (by omega)]; omega
        simp [St.get, lookS, hw1, -List.map_set, -List.map_map]
      · obtain rfl : r = 256 := by omega
        have hr0' : ¬ ((256 : Nat) : Int) < 256 := by omega
        simp only [go_sem, ↓reduceIte, Nat.reduceEqDiff, Nat.reduceLT, Nat.reduceLeDiff, Nat.reduceAdd, Nat.reduceSub, Nat.reduceMul, Nat.reduceMod, Nat.reduceDiv, Int.reduceLE, Int.reduceLT, Int.reduceToNat, Int.reduceAdd, Int.reduceSub, Int.reduceMul, Int.reduceEq, Int.reduceNeg, BitVec.reduceOfInt, BitVec.reduceToNat, BitVec.reduceEq, BitVec.reduceNe, BitVec.reduceLT, reduceCtorEq, and_true, true_and, and_self, Nat.succ_ne_self, decide_true, decide_false, Bool.false_eq_true, Nat.one_ne_zero, Nat.zero_ne_one, Nat.not_lt_zero, Nat.zero_lt_succ, ge_iff_le, gt_iff_lt, decide_eq_true_eq, Option.some.injEq, List.getElem?_cons_zero, List.getElem?_cons_succ, List.length_cons, List.length_nil, Int.natCast_zero, List.map_cons, List.map_nil, List.append_nil, List.nil_append, List.cons_append, vconv, Option.map_some, Option.map_none, List.getD_cons_zero, List.getD_cons_succ, List.not_mem_nil, false_implies, implies_true, List.getElem?_toArray, Option.bind_some, List.set_cons_zero, List.set_cons_succ, List.take_succ_cons, List.take_zero, List.drop_succ_cons, List.drop_zero, List.drop_nil, List.take_nil, List.forall_mem_cons, List.forall_mem_nil, V.u8.injEq, exists_eq', Nat.zero_mul, Nat.one_mul, Nat.zero_add, Nat.mul_one, Nat.add_zero, Int.toNat_natCast, Int.cast_ofNat_Int, ne_eq, not_true_eq_false, not_false_eq_true, List.length_set, List.length_append, List.length_take, List.length_drop, List.length_replicate, Option.isSome_none, Option.isSome_some, w64_of, Bool.not_true, Bool.not_false, Bool.true_and, Bool.false_and, Bool.and_true, Bool.and_false, Bool.true_or, Bool.false_or, Bool.or_true, Bool.or_false, Bool.not_eq_true', decide_eq_false_iff_not, beq_self_eq_true, List.take_length, Nat.le_refl, Int.le_refl, Blk.mk.injEq, hr0', hbad]
  · have h0' : ¬ ((2 * i : Nat) : Int) < (s.length : Int) := by omega
    have hres : unhexR s = .tup [.str l, .i64 0] := by
      unfold unhexR
      rw [if_neg (by omega), show s.length / 2 = i by omega, hu]
    simp only [go_sem, ↓reduceIte, Nat.reduceEqDiff, Nat.reduceLT, Nat.reduceLeDiff, Nat.reduceAdd, Nat.reduceSub, Nat.reduceMul, Nat.reduceMod, Nat.reduceDiv, Int.reduceLE, Int.reduceLT, Int.reduceToNat, Int.reduceAdd, Int.reduceSub, Int.reduceMul, Int.reduceEq, Int.reduceNeg, BitVec.reduceOfInt, BitVec.reduceToNat, BitVec.reduceEq, BitVec.reduceNe, BitVec.reduceLT, reduceCtorEq, and_true, true_and, and_self, Nat.succ_ne_self, decide_true, decide_false, Bool.false_eq_true, Nat.one_ne_zero, Nat.zero_ne_one, Nat.not_lt_zero, Nat.zero_lt_succ, ge_iff_le, gt_iff_lt, decide_eq_true_eq, Option.some.injEq, List.getElem?_cons_zero, List.getElem?_cons_succ, List.length_cons, List.length_nil, Int.natCast_zero, List.map_cons, List.map_nil, List.append_nil, List.nil_append, List.cons_append, vconv, Option.map_some, Option.map_none, List.getD_cons_zero, List.getD_cons_succ, List.not_mem_nil, false_implies, implies_true, List.getElem?_toArray, Option.bind_some, List.set_cons_zero, List.set_cons_succ, List.take_succ_cons, List.take_zero, List.drop_succ_cons, List.drop_zero, List.drop_nil, List.take_nil, List.forall_mem_cons, List.forall_mem_nil, V.u8.injEq, exists_eq', Nat.zero_mul, Nat.one_mul, Nat.zero_add, Nat.mul_one, Nat.add_zero, Int.toNat_natCast, Int.cast_ofNat_Int, ne_eq, not_true_eq_false, not_false_eq_true, List.length_set, List.length_append, List.length_take, List.length_drop, List.length_replicate, Option.isSome_none, Option.isSome_some, w64_of, Bool.not_true, Bool.not_false, Bool.true_and, Bool.false_and, Bool.and_true, Bool.and_false, Bool.true_or, Bool.false_or, Bool.or_true, Bool.or_false, Bool.not_eq_true', decide_eq_false_iff_not, beq_self_eq_true, List.take_length, Nat.le_refl, Int.le_refl, Blk.mk.injEq, h0', hres]
end Go.Vm
