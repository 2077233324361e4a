/- A part of the proof: laws of a small machine of values, or what one function answers, proved against the model; no conditions beyond those in each theorem. -/
import Derived.Test.YtfocbnegeechjaaShelfRepToEl14
set_option linter.unusedVariables false
set_option linter.unusedSimpArgs false
set_option linter.unusedSectionVars false
section
namespace Go.Vm
open Go.Proofs
set_option maxRecDepth 20000
def clampC (s : List (BitVec 8)) : List (BitVec 8) := (s.set 0 (s.getD 0 0 &&& 248#8)).set 31 ((s.getD 31 0 &&& 127#8) ||| 64#8)
theorem Clamp_spec (s : List (BitVec 8)) : PureFn Try.prog 52 [.str s] (.tup (if s.length = 32 then [.str (clampC s), .i64 0] else [.str [], .i64 1])) := by
  by_cases h : s.length = 32
  · rw [if_pos h]
    refine pure_of_vc (by kernel_rfl) (fn := Try.f52) (by kernel_rfl) Try.func52 rfl (by show 1 ≤ 24; decide) (by simp [lows, V.low]) (by simp [lows, V.low, lows_ite, low_ite]) (go_start ?_)
    simp only [go_sem, ↓reduceIte, Nat.reduceEqDiff, Nat.reduceLT, Nat.reduceLeDiff, Nat.reduceAdd, Nat.reduceSub, Nat.reduceMul, Nat.reduceMod, Nat.reduceDiv, Int.reduceLE, Int.reduceLT, Int.reduceToNat, Int.reduceAdd, Int.reduceSub, Int.reduceMul, Int.reduceEq, Int.reduceNeg, BitVec.reduceOfInt, BitVec.reduceToNat, BitVec.reduceEq, BitVec.reduceNe, BitVec.reduceLT, reduceCtorEq, and_true, true_and, and_self, Nat.succ_ne_self, decide_true, decide_false, Bool.false_eq_true, Nat.one_ne_zero, Nat.zero_ne_one, Nat.not_lt_zero, Nat.zero_lt_succ, ge_iff_le, gt_iff_lt, decide_eq_true_eq, Option.some.injEq, List.getElem?_cons_zero, List.getElem?_cons_succ, List.length_cons, List.length_nil, Int.natCast_zero, List.map_cons, List.map_nil, List.append_nil, List.nil_append, List.cons_append, vconv, Option.map_some, Option.map_none, List.getD_cons_zero, List.getD_cons_succ, List.not_mem_nil, false_implies, implies_true, List.getElem?_toArray, Option.bind_some, List.set_cons_zero, List.set_cons_succ, List.take_succ_cons, List.take_zero, List.drop_succ_cons, List.drop_zero, List.drop_nil, List.take_nil, List.forall_mem_cons, List.forall_mem_nil, V.u8.injEq, exists_eq', Nat.zero_mul, Nat.one_mul, Nat.zero_add, Nat.mul_one, Nat.add_zero, Int.toNat_natCast, Int.cast_ofNat_Int, ne_eq, not_true_eq_false, not_false_eq_true, List.length_set, List.length_append, List.length_take, List.length_drop, List.length_replicate, Option.isSome_none, Option.isSome_some, w64_of, Bool.not_true, Bool.not_false, Bool.true_and, Bool.false_and, Bool.and_true, Bool.and_false, Bool.true_or, Bool.false_or, Bool.or_true, Bool.or_false, Bool.not_eq_true', decide_eq_false_iff_not, beq_self_eq_true, List.take_length, Nat.le_refl, Int.le_refl, Blk.mk.injEq, Try.ntmps52, Try.results52, h, getD_u8]
    rw [List.take_of_length_le (by simp [h])]
    have e : (s.set 0 (s.getD 0 0 &&& 248#8)).getD 31 0 = s.getD 31 0 := by simp [List.getD_eq_getElem?_getD]
    rw [e]; rfl
  · rw [if_neg h]
    have h' : ¬ (s.length : Int) = 32 := by omega
    refine pure_of_vc (by kernel_rfl) (fn := Try.f52) (by kernel_rfl) Try.func52 rfl (by show 1 ≤ 24; decide) (by simp [lows, V.low]) (by simp [lows, V.low, lows_ite, low_ite]) (go_start ?_)
    simp only [go_sem, ↓reduceIte, Nat.reduceEqDiff, Nat.reduceLT, Nat.reduceLeDiff, Nat.reduceAdd, Nat.reduceSub, Nat.reduceMul, Nat.reduceMod, Nat.reduceDiv, Int.reduceLE, Int.reduceLT, Int.reduceToNat, Int.reduceAdd, Int.reduceSub, Int.reduceMul, Int.reduceEq, Int.reduceNeg, BitVec.reduceOfInt, BitVec.reduceToNat, BitVec.reduceEq, BitVec.reduceNe, BitVec.reduceLT, reduceCtorEq, and_true, true_and, and_self, Nat.succ_ne_self, decide_true, decide_false, Bool.false_eq_true, Nat.one_ne_zero, Nat.zero_ne_one, Nat.not_lt_zero, Nat.zero_lt_succ, ge_iff_le, gt_iff_lt, decide_eq_true_eq, Option.some.injEq, List.getElem?_cons_zero, List.getElem?_cons_succ, List.length_cons, List.length_nil, Int.natCast_zero, List.map_cons, List.map_nil, List.append_nil, List.nil_append, List.cons_append, vconv, Option.map_some, Option.map_none, List.getD_cons_zero, List.getD_cons_succ, List.not_mem_nil, false_implies, implies_true, List.getElem?_toArray, Option.bind_some, List.set_cons_zero, List.set_cons_succ, List.take_succ_cons, List.take_zero, List.drop_succ_cons, List.drop_zero, List.drop_nil, List.take_nil, List.forall_mem_cons, List.forall_mem_nil, V.u8.injEq, exists_eq', Nat.zero_mul, Nat.one_mul, Nat.zero_add, Nat.mul_one, Nat.add_zero, Int.toNat_natCast, Int.cast_ofNat_Int, ne_eq, not_true_eq_false, not_false_eq_true, List.length_set, List.length_append, List.length_take, List.length_drop, List.length_replicate, Option.isSome_none, Option.isSome_some, w64_of, Bool.not_true, Bool.not_false, Bool.true_and, Bool.false_and, Bool.and_true, Bool.and_false, Bool.true_or, Bool.false_or, Bool.or_true, Bool.or_false, Bool.not_eq_true', decide_eq_false_iff_not, beq_self_eq_true, List.take_length, Nat.le_refl, Int.le_refl, Blk.mk.injEq, Try.ntmps52, Try.results52, h']
def rclamp (s : List (BitVec 8)) : List (BitVec 8) := BitVec.ofInt 8 (w64 (w64 (((s.getD 0 0).toNat : Int).tdiv 8) * 8)) :: ((s.take 31).drop 1 ++ [BitVec.ofInt 8 (w64 (((s.getD 31 0).toNat : Int).tmod 64 + 64))])
theorem RClamp_spec (s : List (BitVec 8)) : PureFn Try.prog 54 [.str s] (.tup (if s.length = 32 then [.str (rclamp s), .i64 0] else [.str [], .i64 1])) := by
  by_cases h : s.length = 32
  · rw [if_pos h]
    refine pure_of_vc (by kernel_rfl) (fn := Try.f54) (by kernel_rfl) Try.func54 rfl (by show 1 ≤ 23; decide) (by simp [lows, V.low]) (by simp [lows, V.low, lows_ite, low_ite]) (go_start ?_)
    simp only [go_sem, ↓reduceIte, Nat.reduceEqDiff, Nat.reduceLT, Nat.reduceLeDiff, Nat.reduceAdd, Nat.reduceSub, Nat.reduceMul, Nat.reduceMod, Nat.reduceDiv, Int.reduceLE, Int.reduceLT, Int.reduceToNat, Int.reduceAdd, Int.reduceSub, Int.reduceMul, Int.reduceEq, Int.reduceNeg, BitVec.reduceOfInt, BitVec.reduceToNat, BitVec.reduceEq, BitVec.reduceNe, BitVec.reduceLT, reduceCtorEq, and_true, true_and, and_self, Nat.succ_ne_self, decide_true, decide_false, Bool.false_eq_true, Nat.one_ne_zero, Nat.zero_ne_one, Nat.not_lt_zero, Nat.zero_lt_succ, ge_iff_le, gt_iff_lt, decide_eq_true_eq, Option.some.injEq, List.getElem?_cons_zero, List.getElem?_cons_succ, List.length_cons, List.length_nil, Int.natCast_zero, List.map_cons, List.map_nil, List.append_nil, List.nil_append, List.cons_append, vconv, Option.map_some, Option.map_none, List.getD_cons_zero, List.getD_cons_succ, List.not_mem_nil, false_implies, implies_true, List.getElem?_toArray, Option.bind_some, List.set_cons_zero, List.set_cons_succ, List.take_succ_cons, List.take_zero, List.drop_succ_cons, List.drop_zero, List.drop_nil, List.take_nil, List.forall_mem_cons, List.forall_mem_nil, V.u8.injEq, exists_eq', Nat.zero_mul, Nat.one_mul, Nat.zero_add, Nat.mul_one, Nat.add_zero, Int.toNat_natCast, Int.cast_ofNat_Int, ne_eq, not_true_eq_false, not_false_eq_true, List.length_set, List.length_append, List.length_take, List.length_drop, List.length_replicate, Option.isSome_none, Option.isSome_some, w64_of, Bool.not_true, Bool.not_false, Bool.true_and, Bool.false_and, Bool.and_true, Bool.and_false, Bool.true_or, Bool.false_or, Bool.or_true, Bool.or_false, Bool.not_eq_true', decide_eq_false_iff_not, beq_self_eq_true, List.take_length, Nat.le_refl, Int.le_refl, Blk.mk.injEq, Try.ntmps54, Try.results54, h, getD_u8]
    refine goCallD_pure0 (chr_spec _) ?_
    simp only [go_sem, ↓reduceIte, Nat.reduceEqDiff, Nat.reduceLT, Nat.reduceLeDiff, Nat.reduceAdd, Nat.reduceSub, Nat.reduceMul, Nat.reduceMod, Nat.reduceDiv, Int.reduceLE, Int.reduceLT, Int.reduceToNat, Int.reduceAdd, Int.reduceSub, Int.reduceMul, Int.reduceEq, Int.reduceNeg, BitVec.reduceOfInt, BitVec.reduceToNat, BitVec.reduceEq, BitVec.reduceNe, BitVec.reduceLT, reduceCtorEq, and_true, true_and, and_self, Nat.succ_ne_self, decide_true, decide_false, Bool.false_eq_true, Nat.one_ne_zero, Nat.zero_ne_one, Nat.not_lt_zero, Nat.zero_lt_succ, ge_iff_le, gt_iff_lt, decide_eq_true_eq, Option.some.injEq, List.getElem?_cons_zero, List.getElem?_cons_succ, List.length_cons, List.length_nil, Int.natCast_zero, List.map_cons, List.map_nil, List.append_nil, List.nil_append, List.cons_append, vconv, Option.map_some, Option.map_none, List.getD_cons_zero, List.getD_cons_succ, List.not_mem_nil, false_implies, implies_true, List.getElem?_toArray, Option.bind_some, List.set_cons_zero, List.set_cons_succ, List.take_succ_cons, List.take_zero, List.drop_succ_cons, List.drop_zero, List.drop_nil, List.take_nil, List.forall_mem_cons, List.forall_mem_nil, V.u8.injEq, exists_eq', Nat.zero_mul, Nat.one_mul, Nat.zero_add, Nat.mul_one, Nat.add_zero, Int.toNat_natCast, Int.cast_ofNat_Int, ne_eq, not_true_eq_false, not_false_eq_true, List.length_set, List.length_append, List.length_take, List.length_drop, List.length_replicate, Option.isSome_none, Option.isSome_some, w64_of, Bool.not_true, Bool.not_false, Bool.true_and, Bool.false_and, Bool.and_true, Bool.and_false, Bool.true_or, Bool.false_or, Bool.or_true, Bool.or_false, Bool.not_eq_true', decide_eq_false_iff_not, beq_self_eq_true, List.take_length, Nat.le_refl, Int.le_refl, Blk.mk.injEq, h, getD_u8]
    refine ⟨by omega, goCallD_pure0 (chr_spec _) ?_⟩
    simp only [go_sem, ↓reduceIte, Nat.reduceEqDiff, Nat.reduceLT, Nat.reduceLeDiff, Nat.reduceAdd, Nat.reduceSub, Nat.reduceMul, Nat.reduceMod, Nat.reduceDiv, Int.reduceLE, Int.reduceLT, Int.reduceToNat, Int.reduceAdd, Int.reduceSub, Int.reduceMul, Int.reduceEq, Int.reduceNeg, BitVec.reduceOfInt, BitVec.reduceToNat, BitVec.reduceEq, BitVec.reduceNe, BitVec.reduceLT, reduceCtorEq, and_true, true_and, and_self, Nat.succ_ne_self, decide_true, decide_false, Bool.false_eq_true, Nat.one_ne_zero, Nat.zero_ne_one, Nat.not_lt_zero, Nat.zero_lt_succ, ge_iff_le, gt_iff_lt, decide_eq_true_eq, Option.some.injEq, List.getElem?_cons_zero, List.getElem?_cons_succ, List.length_cons, List.length_nil, Int.natCast_zero, List.map_cons, List.map_nil, List.append_nil, List.nil_append, List.cons_append, vconv, Option.map_some, Option.map_none, List.getD_cons_zero, List.getD_cons_succ, List.not_mem_nil, false_implies, implies_true, List.getElem?_toArray, Option.bind_some, List.set_cons_zero, List.set_cons_succ, List.take_succ_cons, List.take_zero, List.drop_succ_cons, List.drop_zero, List.drop_nil, List.take_nil, List.forall_mem_cons, List.forall_mem_nil, V.u8.injEq, exists_eq', Nat.zero_mul, Nat.one_mul, Nat.zero_add, Nat.mul_one, Nat.add_zero, Int.toNat_natCast, Int.cast_ofNat_Int, ne_eq, not_true_eq_false, not_false_eq_true, List.length_set, List.length_append, List.length_take, List.length_drop, List.length_replicate, Option.isSome_none, Option.isSome_some, w64_of, Bool.not_true, Bool.not_false, Bool.true_and, Bool.false_and, Bool.and_true, Bool.and_false, Bool.true_or, Bool.false_or, Bool.or_true, Bool.or_false, Bool.not_eq_true', decide_eq_false_iff_not, beq_self_eq_true, List.take_length, Nat.le_refl, Int.le_refl, Blk.mk.injEq, h, getD_u8]
    exact ⟨by omega, by kernel_rfl, rfl⟩
  · rw [if_neg h]
    have h' : ¬ (s.length : Int) = 32 := by omega
    refine pure_of_vc (by kernel_rfl) (fn := Try.f54) (by kernel_rfl) Try.func54 rfl (by show 1 ≤ 23; decide) (by simp [lows, V.low]) (by simp [lows, V.low, lows_ite, low_ite]) (go_start ?_)
    simp only [go_sem, ↓reduceIte, Nat.reduceEqDiff, Nat.reduceLT, Nat.reduceLeDiff, Nat.reduceAdd, Nat.reduceSub, Nat.reduceMul, Nat.reduceMod, Nat.reduceDiv, Int.reduceLE, Int.reduceLT, Int.reduceToNat, Int.reduceAdd, Int.reduceSub, Int.reduceMul, Int.reduceEq, Int.reduceNeg, BitVec.reduceOfInt, BitVec.reduceToNat, BitVec.reduceEq, BitVec.reduceNe, BitVec.reduceLT, reduceCtorEq, and_true, true_and, and_self, Nat.succ_ne_self, decide_true, decide_false, Bool.false_eq_true, Nat.one_ne_zero, Nat.zero_ne_one, Nat.not_lt_zero, Nat.zero_lt_succ, ge_iff_le, gt_iff_lt, decide_eq_true_eq, Option.some.injEq, List.getElem?_cons_zero, List.getElem?_cons_succ, List.length_cons, List.length_nil, Int.natCast_zero, List.map_cons, List.map_nil, List.append_nil, List.nil_append, List.cons_append, vconv, Option.map_some, Option.map_none, List.getD_cons_zero, List.getD_cons_succ, List.not_mem_nil, false_implies, implies_true, List.getElem?_toArray, Option.bind_some, List.set_cons_zero, List.set_cons_succ, List.take_succ_cons, List.take_zero, List.drop_succ_cons, List.drop_zero, List.drop_nil, List.take_nil, List.forall_mem_cons, List.forall_mem_nil, V.u8.injEq, exists_eq', Nat.zero_mul, Nat.one_mul, Nat.zero_add, Nat.mul_one, Nat.add_zero, Int.toNat_natCast, Int.cast_ofNat_Int, ne_eq, not_true_eq_false, not_false_eq_true, List.length_set, List.length_append, List.length_take, List.length_drop, List.length_replicate, Option.isSome_none, Option.isSome_some, w64_of, Bool.not_true, Bool.not_false, Bool.true_and, Bool.false_and, Bool.and_true, Bool.and_false, Bool.true_or, Bool.false_or, Bool.or_true, Bool.or_false, Bool.not_eq_true', decide_eq_false_iff_not, beq_self_eq_true, List.take_length, Nat.le_refl, Int.le_refl, Blk.mk.injEq, Try.ntmps54, Try.results54, h']
theorem low_byte (x : BitVec 8) : x &&& 248#8 = BitVec.ofInt 8 (w64 (w64 ((x.toNat : Int).tdiv 8) * 8)) := by
  have h : ∀ y : Nat, nall (fun y => Nat.beq (BitVec.ofNat 8 y &&& 248#8).toNat (BitVec.ofInt 8 (w64 (w64 (((BitVec.ofNat 8 y).toNat : Int).tdiv 8) * 8))).toNat) 256 = true := fun _ => by decide +kernel
  have := nall_get (h 0) x.toNat x.isLt
  have e : BitVec.ofNat 8 x.toNat = x := by simp
  simp only [e] at this
  exact BitVec.eq_of_toNat_eq (Nat.eq_of_beq_eq_true this)
theorem high_byte (x : BitVec 8) : (x &&& 127#8) ||| 64#8 = BitVec.ofInt 8 (w64 ((x.toNat : Int).tmod 64 + 64)) := by
  have h : ∀ y : Nat, nall (fun y => Nat.beq ((BitVec.ofNat 8 y &&& 127#8) ||| 64#8).toNat (BitVec.ofInt 8 (w64 (((BitVec.ofNat 8 y).toNat : Int).tmod 64 + 64))).toNat) 256 = true := fun _ => by decide +kernel
  have := nall_get (h 0) x.toNat x.isLt
  have e : BitVec.ofNat 8 x.toNat = x := by simp
  simp only [e] at this
  exact BitVec.eq_of_toNat_eq (Nat.eq_of_beq_eq_true this)
theorem clamp_eq (s : List (BitVec 8)) (h : s.length = 32) : clampC s = rclamp s := by
  unfold clampC rclamp
  rw [← low_byte, ← high_byte]
  apply List.ext_getElem
  · simp [h]
  · intro i h1 h2
    have hi : i < 32 := by simpa [h] using h1
    rw [List.getElem_set]
    by_cases e : 31 = i
    · subst e
      simp [h]
    · rw [if_neg e, List.getElem_set]
      by_cases e0 : 0 = i
      · subst e0; simp
      · rw [if_neg e0]
        obtain ⟨j, rfl⟩ : ∃ j, i = j + 1 := ⟨i - 1, by omega⟩
        rw [List.getElem_cons_succ, List.getElem_append_left (by simp [h]; omega), List.getElem_drop, List.getElem_take]
        congr 1; omega

/-! Points. -/
abbrev Pt := List Int × List Int
def okP (p : Pt) : Prop := okI p.1 ∧ okI p.2
theorem ok_plus {a b : List Int} {t : Int} (ha : okI a) (hb : okI b) (ht : -1 ≤ t ∧ t ≤ 200000) : okI (plusI a b t) := (plusI_val a b t ha hb ht).1
theorem ok_times {a b : List Int} (ha : okI a) (hb : okI b) : okI (timesI a b) := (timesI_val a b ha hb).1
def pS (p : Pt) : List Int := plusI p.1 p.2 1
def pD (p : Pt) : List Int := plusI p.1 p.2 (-1)
def dA (p : Pt) : List Int := timesI (pS p) (pS p)
def dB (p : Pt) : List Int := timesI (pD p) (pD p)
def dE (p : Pt) : List Int := plusI (dA p) (dB p) (-1)
def dF (p : Pt) : List Int := plusI (dA p) (dE p) 121665
def dblI (p : Pt) : Pt := (timesI (dA p) (dB p), timesI (dE p) (dF p))
def addA (p q : Pt) : List Int := timesI (pD p) (pS q)
def addB (p q : Pt) : List Int := timesI (pS p) (pD q)
def aC (p q : Pt) : List Int := plusI (addA p q) (addB p q) 1
def aD (p q : Pt) : List Int := plusI (addA p q) (addB p q) (-1)
def aDD (p q : Pt) : List Int := timesI (aD p q) (aD p q)
def addPt (p q : Pt) (x : List Int) : Pt := (timesI (aC p q) (aC p q), timesI x (aDD p q))
theorem okS {p : Pt} (h : okP p) : okI (pS p) := ok_plus h.1 h.2 (by decide)
theorem okD {p : Pt} (h : okP p) : okI (pD p) := ok_plus h.1 h.2 (by decide)
theorem okdA {p : Pt} (h : okP p) : okI (dA p) := ok_times (okS h) (okS h)
theorem okdB {p : Pt} (h : okP p) : okI (dB p) := ok_times (okD h) (okD h)
theorem okdE {p : Pt} (h : okP p) : okI (dE p) := ok_plus (okdA h) (okdB h) (by decide)
theorem okdF {p : Pt} (h : okP p) : okI (dF p) := ok_plus (okdA h) (okdE h) (by decide)
theorem ok_dbl {p : Pt} (h : okP p) : okP (dblI p) := by
  dsimp only [okP, dblI]
  exact ⟨ok_times (okdA h) (okdB h), ok_times (okdE h) (okdF h)⟩
theorem ok_addA {p q : Pt} (hp : okP p) (hq : okP q) : okI (addA p q) := ok_times (okD hp) (okS hq)
theorem ok_addB {p q : Pt} (hp : okP p) (hq : okP q) : okI (addB p q) := ok_times (okS hp) (okD hq)
theorem ok_aC {p q : Pt} (hp : okP p) (hq : okP q) : okI (aC p q) := ok_plus (ok_addA hp hq) (ok_addB hp hq) (by decide)
theorem ok_aD {p q : Pt} (hp : okP p) (hq : okP q) : okI (aD p q) := ok_plus (ok_addA hp hq) (ok_addB hp hq) (by decide)
theorem ok_aDD {p q : Pt} (hp : okP p) (hq : okP q) : okI (aDD p q) := ok_times (ok_aD hp hq) (ok_aD hp hq)
theorem ok_add {p q : Pt} {x : List Int} (hp : okP p) (hq : okP q) (hx : okI x) : okP (addPt p q x) := by
  dsimp only [okP, addPt]
  exact ⟨ok_times (ok_aC hp hq) (ok_aC hp hq), ok_times hx (ok_aDD hp hq)⟩
def cellsP (p : Pt) : List V := (p.1 ++ p.2).map .i64
theorem cellsP_len (p : Pt) (h : okP p) : (p.1 ++ p.2).length = 32 := by rw [List.length_append, h.1.1, h.2.1]
theorem cellsP_1 (p : Pt) (h : okP p) : (p.1 ++ p.2).take 16 = p.1 := List.take_left' h.1.1
theorem cellsP_2 (p : Pt) (h : okP p) : (p.1 ++ p.2).drop 16 = p.2 := List.drop_left' h.1.1
theorem splice_gen (cs xs : List V) (o : Nat) (h : xs.length ≠ 1) : splice cs o xs = cs.take o ++ xs ++ cs.drop (o + xs.length) := by
  match xs, h with
  | [], _ => exact splice_nil cs o
  | [x], h => exact absurd rfl h
  | x :: y :: l, _ => exact splice_two cs o x y l
theorem build1_len (a : List Int) (ha : a.length = 16) : (splice [V.i64 0, V.i64 0, V.i64 0, V.i64 0, V.i64 0, V.i64 0, V.i64 0, V.i64 0, V.i64 0, V.i64 0, V.i64 0, V.i64 0, V.i64 0, V.i64 0, V.i64 0, V.i64 0, V.i64 0, V.i64 0, V.i64 0, V.i64 0, V.i64 0, V.i64 0, V.i64 0, V.i64 0, V.i64 0, V.i64 0, V.i64 0, V.i64 0, V.i64 0, V.i64 0, V.i64 0, V.i64 0] 0 (a.map .i64)).length = 32 := by
  rw [splice_gen _ _ _ (by rw [List.length_map, ha]; decide)]
  simp only [List.length_append, List.length_take, List.length_map, ha, List.length_drop]
  rfl
theorem build2 (a b : List Int) (ha : a.length = 16) (hb : b.length = 16) : splice (splice [V.i64 0, V.i64 0, V.i64 0, V.i64 0, V.i64 0, V.i64 0, V.i64 0, V.i64 0, V.i64 0, V.i64 0, V.i64 0, V.i64 0, V.i64 0, V.i64 0, V.i64 0, V.i64 0, V.i64 0, V.i64 0, V.i64 0, V.i64 0, V.i64 0, V.i64 0, V.i64 0, V.i64 0, V.i64 0, V.i64 0, V.i64 0, V.i64 0, V.i64 0, V.i64 0, V.i64 0, V.i64 0] 0 (a.map .i64)) 16 (b.map .i64) = (a ++ b).map .i64 := by
  rw [splice_gen _ (b.map .i64) _ (by rw [List.length_map, hb]; decide), splice_gen _ (a.map .i64) _ (by rw [List.length_map, ha]; decide)]
  rw [List.take_zero, List.nil_append, List.take_left' (by rw [List.length_map, ha]), List.drop_of_length_le (by simp [ha, hb]), List.append_nil, List.map_append]
theorem dbl_spec (p : Pt) (hp : okP p) : PureFn Try.prog 72 [.agg (cellsP p)] (.agg (cellsP (dblI p))) := by
  have hm : min 16 16 = 16 := rfl
  have hm2 : min 32 32 = 32 := rfl
  have s1 := plusI_spec p.1 p.2 1 hp.1 hp.2 (by decide)
  have s2 := plusI_spec p.1 p.2 (-1) hp.1 hp.2 (by decide)
  rw [show plusI p.1 p.2 1 = pS p from rfl] at s1
  rw [show plusI p.1 p.2 (-1) = pD p from rfl] at s2
  have s3 := timesI_spec _ _ (okS hp) (okS hp)
  have s4 := timesI_spec _ _ (okD hp) (okD hp)
  rw [show timesI (pS p) (pS p) = dA p from rfl] at s3
  rw [show timesI (pD p) (pD p) = dB p from rfl] at s4
  have s5 := plusI_spec _ _ (-1) (okdA hp) (okdB hp) (by decide)
  rw [show plusI (dA p) (dB p) (-1) = dE p from rfl] at s5
  have s6 := timesI_spec _ _ (okdA hp) (okdB hp)
  have s7 := plusI_spec _ _ 121665 (okdA hp) (okdE hp) (by decide)
  rw [show plusI (dA p) (dE p) 121665 = dF p from rfl] at s7
  have s8 := timesI_spec _ _ (okdE hp) (okdF hp)
  have l1 := (okS hp).1
  have l2 := (okD hp).1
  have l3 := (okdA hp).1
  have l4 := (okdB hp).1
  have l5 := (okdE hp).1
  have l6 := (ok_times (okdA hp) (okdB hp)).1
  have l8 := (ok_times (okdE hp) (okdF hp)).1
  have c0 := cellsP_len p hp
  have c1 := cellsP_1 p hp
  have c2 := cellsP_2 p hp
  unfold cellsP dblI
  simp only
  generalize timesI (dE p) (dF p) = r8 at *
  generalize timesI (dA p) (dB p) = r6 at *
  generalize dF p = r7 at *
  generalize dE p = r5 at *
  generalize dA p = r3 at *
  generalize dB p = r4 at *
  generalize pS p = r1 at *
  generalize pD p = r2 at *
  generalize hw : p.1 ++ p.2 = w at *
  refine pure_of_vc (by kernel_rfl) (fn := Try.f72) (by kernel_rfl) Try.func72 rfl (by show 1 ≤ 34; decide) (by simp [lows_i64, lows_append, lows, V.low]) (by simp [lows_i64, lows_append, lows, V.low, lows_ite, low_ite]) (go_start ?_)
  simp only [go_sem, ↓reduceIte, Nat.reduceEqDiff, Nat.reduceLT, Nat.reduceLeDiff, Nat.reduceAdd, Nat.reduceSub, Nat.reduceMul, Nat.reduceMod, Nat.reduceDiv, Int.reduceLE, Int.reduceLT, Int.reduceToNat, Int.reduceAdd, Int.reduceSub, Int.reduceMul, Int.reduceEq, Int.reduceNeg, BitVec.reduceOfInt, BitVec.reduceToNat, BitVec.reduceEq, BitVec.reduceNe, BitVec.reduceLT, reduceCtorEq, and_true, true_and, and_self, Nat.succ_ne_self, decide_true, decide_false, Bool.false_eq_true, Nat.one_ne_zero, Nat.zero_ne_one, Nat.not_lt_zero, Nat.zero_lt_succ, ge_iff_le, gt_iff_lt, decide_eq_true_eq, Option.some.injEq, List.getElem?_cons_zero, List.getElem?_cons_succ, List.length_cons, List.length_nil, Int.natCast_zero, List.map_cons, List.map_nil, List.append_nil, List.nil_append, List.cons_append, vconv, Option.map_some, Option.map_none, List.getD_cons_zero, List.getD_cons_succ, List.not_mem_nil, false_implies, implies_true, List.getElem?_toArray, Option.bind_some, List.set_cons_zero, List.set_cons_succ, List.take_succ_cons, List.take_zero, List.drop_succ_cons, List.drop_zero, List.drop_nil, List.take_nil, List.forall_mem_cons, List.forall_mem_nil, V.u8.injEq, exists_eq', Nat.zero_mul, Nat.one_mul, Nat.zero_add, Nat.mul_one, Nat.add_zero, Int.toNat_natCast, Int.cast_ofNat_Int, ne_eq, not_true_eq_false, not_false_eq_true, List.length_set, List.length_append, List.length_take, List.length_drop, List.length_replicate, Option.isSome_none, Option.isSome_some, w64_of, Bool.not_true, Bool.not_false, Bool.true_and, Bool.false_and, Bool.and_true, Bool.and_false, Bool.true_or, Bool.false_or, Bool.or_true, Bool.or_false, Bool.not_eq_true', decide_eq_false_iff_not, beq_self_eq_true, List.take_length, Nat.le_refl, Int.le_refl, Blk.mk.injEq, Try.ntmps72, Try.results72, hp.1.1, hp.2.1, c0, c1, c2, hm, hm2, List.take_of_length_le]
  refine goCallD_pure0 (s1) ?_
  simp only [go_sem, ↓reduceIte, Nat.reduceEqDiff, Nat.reduceLT, Nat.reduceLeDiff, Nat.reduceAdd, Nat.reduceSub, Nat.reduceMul, Nat.reduceMod, Nat.reduceDiv, Int.reduceLE, Int.reduceLT, Int.reduceToNat, Int.reduceAdd, Int.reduceSub, Int.reduceMul, Int.reduceEq, Int.reduceNeg, BitVec.reduceOfInt, BitVec.reduceToNat, BitVec.reduceEq, BitVec.reduceNe, BitVec.reduceLT, reduceCtorEq, and_true, true_and, and_self, Nat.succ_ne_self, decide_true, decide_false, Bool.false_eq_true, Nat.one_ne_zero, Nat.zero_ne_one, Nat.not_lt_zero, Nat.zero_lt_succ, ge_iff_le, gt_iff_lt, decide_eq_true_eq, Option.some.injEq, List.getElem?_cons_zero, List.getElem?_cons_succ, List.length_cons, List.length_nil, Int.natCast_zero, List.map_cons, List.map_nil, List.append_nil, List.nil_append, List.cons_append, vconv, Option.map_some, Option.map_none, List.getD_cons_zero, List.getD_cons_succ, List.not_mem_nil, false_implies, implies_true, List.getElem?_toArray, Option.bind_some, List.set_cons_zero, List.set_cons_succ, List.take_succ_cons, List.take_zero, List.drop_succ_cons, List.drop_zero, List.drop_nil, List.take_nil, List.forall_mem_cons, List.forall_mem_nil, V.u8.injEq, exists_eq', Nat.zero_mul, Nat.one_mul, Nat.zero_add, Nat.mul_one, Nat.add_zero, Int.toNat_natCast, Int.cast_ofNat_Int, ne_eq, not_true_eq_false, not_false_eq_true, List.length_set, List.length_append, List.length_take, List.length_drop, List.length_replicate, Option.isSome_none, Option.isSome_some, w64_of, Bool.not_true, Bool.not_false, Bool.true_and, Bool.false_and, Bool.and_true, Bool.and_false, Bool.true_or, Bool.false_or, Bool.or_true, Bool.or_false, Bool.not_eq_true', decide_eq_false_iff_not, beq_self_eq_true, List.take_length, Nat.le_refl, Int.le_refl, Blk.mk.injEq, c0, c1, c2, hp.1.1, hp.2.1, hm, l1, l2, l3, l4, l5, l6, l8, splice_all, List.take_of_length_le]
  refine goCallD_pure0 (s2) ?_
  simp only [go_sem, ↓reduceIte, Nat.reduceEqDiff, Nat.reduceLT, Nat.reduceLeDiff, Nat.reduceAdd, Nat.reduceSub, Nat.reduceMul, Nat.reduceMod, Nat.reduceDiv, Int.reduceLE, Int.reduceLT, Int.reduceToNat, Int.reduceAdd, Int.reduceSub, Int.reduceMul, Int.reduceEq, Int.reduceNeg, BitVec.reduceOfInt, BitVec.reduceToNat, BitVec.reduceEq, BitVec.reduceNe, BitVec.reduceLT, reduceCtorEq, and_true, true_and, and_self, Nat.succ_ne_self, decide_true, decide_false, Bool.false_eq_true, Nat.one_ne_zero, Nat.zero_ne_one, Nat.not_lt_zero, Nat.zero_lt_succ, ge_iff_le, gt_iff_lt, decide_eq_true_eq, Option.some.injEq, List.getElem?_cons_zero, List.getElem?_cons_succ, List.length_cons, List.length_nil, Int.natCast_zero, List.map_cons, List.map_nil, List.append_nil, List.nil_append, List.cons_append, vconv, Option.map_some, Option.map_none, List.getD_cons_zero, List.getD_cons_succ, List.not_mem_nil, false_implies, implies_true, List.getElem?_toArray, Option.bind_some, List.set_cons_zero, List.set_cons_succ, List.take_succ_cons, List.take_zero, List.drop_succ_cons, List.drop_zero, List.drop_nil, List.take_nil, List.forall_mem_cons, List.forall_mem_nil, V.u8.injEq, exists_eq', Nat.zero_mul, Nat.one_mul, Nat.zero_add, Nat.mul_one, Nat.add_zero, Int.toNat_natCast, Int.cast_ofNat_Int, ne_eq, not_true_eq_false, not_false_eq_true, List.length_set, List.length_append, List.length_take, List.length_drop, List.length_replicate, Option.isSome_none, Option.isSome_some, w64_of, Bool.not_true, Bool.not_false, Bool.true_and, Bool.false_and, Bool.and_true, Bool.and_false, Bool.true_or, Bool.false_or, Bool.or_true, Bool.or_false, Bool.not_eq_true', decide_eq_false_iff_not, beq_self_eq_true, List.take_length, Nat.le_refl, Int.le_refl, Blk.mk.injEq, c0, c1, c2, hp.1.1, hp.2.1, hm, l1, l2, l3, l4, l5, l6, l8, splice_all, List.take_of_length_le]
  refine ⟨by kernel_rfl, ?_⟩
  refine goCallD_pure0 (s3) ?_
  simp only [go_sem, ↓reduceIte, Nat.reduceEqDiff, Nat.reduceLT, Nat.reduceLeDiff, Nat.reduceAdd, Nat.reduceSub, Nat.reduceMul, Nat.reduceMod, Nat.reduceDiv, Int.reduceLE, Int.reduceLT, Int.reduceToNat, Int.reduceAdd, Int.reduceSub, Int.reduceMul, Int.reduceEq, Int.reduceNeg, BitVec.reduceOfInt, BitVec.reduceToNat, BitVec.reduceEq, BitVec.reduceNe, BitVec.reduceLT, reduceCtorEq, and_true, true_and, and_self, Nat.succ_ne_self, decide_true, decide_false, Bool.false_eq_true, Nat.one_ne_zero, Nat.zero_ne_one, Nat.not_lt_zero, Nat.zero_lt_succ, ge_iff_le, gt_iff_lt, decide_eq_true_eq, Option.some.injEq, List.getElem?_cons_zero, List.getElem?_cons_succ, List.length_cons, List.length_nil, Int.natCast_zero, List.map_cons, List.map_nil, List.append_nil, List.nil_append, List.cons_append, vconv, Option.map_some, Option.map_none, List.getD_cons_zero, List.getD_cons_succ, List.not_mem_nil, false_implies, implies_true, List.getElem?_toArray, Option.bind_some, List.set_cons_zero, List.set_cons_succ, List.take_succ_cons, List.take_zero, List.drop_succ_cons, List.drop_zero, List.drop_nil, List.take_nil, List.forall_mem_cons, List.forall_mem_nil, V.u8.injEq, exists_eq', Nat.zero_mul, Nat.one_mul, Nat.zero_add, Nat.mul_one, Nat.add_zero, Int.toNat_natCast, Int.cast_ofNat_Int, ne_eq, not_true_eq_false, not_false_eq_true, List.length_set, List.length_append, List.length_take, List.length_drop, List.length_replicate, Option.isSome_none, Option.isSome_some, w64_of, Bool.not_true, Bool.not_false, Bool.true_and, Bool.false_and, Bool.and_true, Bool.and_false, Bool.true_or, Bool.false_or, Bool.or_true, Bool.or_false, Bool.not_eq_true', decide_eq_false_iff_not, beq_self_eq_true, List.take_length, Nat.le_refl, Int.le_refl, Blk.mk.injEq, c0, c1, c2, hp.1.1, hp.2.1, hm, l1, l2, l3, l4, l5, l6, l8, splice_all, List.take_of_length_le]
  refine goCallD_pure0 (s4) ?_
  simp only [go_sem, ↓reduceIte, Nat.reduceEqDiff, Nat.reduceLT, Nat.reduceLeDiff, Nat.reduceAdd, Nat.reduceSub, Nat.reduceMul, Nat.reduceMod, Nat.reduceDiv, Int.reduceLE, Int.reduceLT, Int.reduceToNat, Int.reduceAdd, Int.reduceSub, Int.reduceMul, Int.reduceEq, Int.reduceNeg, BitVec.reduceOfInt, BitVec.reduceToNat, BitVec.reduceEq, BitVec.reduceNe, BitVec.reduceLT, reduceCtorEq, and_true, true_and, and_self, Nat.succ_ne_self, decide_true, decide_false, Bool.false_eq_true, Nat.one_ne_zero, Nat.zero_ne_one, Nat.not_lt_zero, Nat.zero_lt_succ, ge_iff_le, gt_iff_lt, decide_eq_true_eq, Option.some.injEq, List.getElem?_cons_zero, List.getElem?_cons_succ, List.length_cons, List.length_nil, Int.natCast_zero, List.map_cons, List.map_nil, List.append_nil, List.nil_append, List.cons_append, vconv, Option.map_some, Option.map_none, List.getD_cons_zero, List.getD_cons_succ, List.not_mem_nil, false_implies, implies_true, List.getElem?_toArray, Option.bind_some, List.set_cons_zero, List.set_cons_succ, List.take_succ_cons, List.take_zero, List.drop_succ_cons, List.drop_zero, List.drop_nil, List.take_nil, List.forall_mem_cons, List.forall_mem_nil, V.u8.injEq, exists_eq', Nat.zero_mul, Nat.one_mul, Nat.zero_add, Nat.mul_one, Nat.add_zero, Int.toNat_natCast, Int.cast_ofNat_Int, ne_eq, not_true_eq_false, not_false_eq_true, List.length_set, List.length_append, List.length_take, List.length_drop, List.length_replicate, Option.isSome_none, Option.isSome_some, w64_of, Bool.not_true, Bool.not_false, Bool.true_and, Bool.false_and, Bool.and_true, Bool.and_false, Bool.true_or, Bool.false_or, Bool.or_true, Bool.or_false, Bool.not_eq_true', decide_eq_false_iff_not, beq_self_eq_true, List.take_length, Nat.le_refl, Int.le_refl, Blk.mk.injEq, c0, c1, c2, hp.1.1, hp.2.1, hm, l1, l2, l3, l4, l5, l6, l8, splice_all, List.take_of_length_le]
  refine ⟨by kernel_rfl, ?_⟩
  refine goCall_pure0 (s5) ?_
  simp only [go_sem, ↓reduceIte, Nat.reduceEqDiff, Nat.reduceLT, Nat.reduceLeDiff, Nat.reduceAdd, Nat.reduceSub, Nat.reduceMul, Nat.reduceMod, Nat.reduceDiv, Int.reduceLE, Int.reduceLT, Int.reduceToNat, Int.reduceAdd, Int.reduceSub, Int.reduceMul, Int.reduceEq, Int.reduceNeg, BitVec.reduceOfInt, BitVec.reduceToNat, BitVec.reduceEq, BitVec.reduceNe, BitVec.reduceLT, reduceCtorEq, and_true, true_and, and_self, Nat.succ_ne_self, decide_true, decide_false, Bool.false_eq_true, Nat.one_ne_zero, Nat.zero_ne_one, Nat.not_lt_zero, Nat.zero_lt_succ, ge_iff_le, gt_iff_lt, decide_eq_true_eq, Option.some.injEq, List.getElem?_cons_zero, List.getElem?_cons_succ, List.length_cons, List.length_nil, Int.natCast_zero, List.map_cons, List.map_nil, List.append_nil, List.nil_append, List.cons_append, vconv, Option.map_some, Option.map_none, List.getD_cons_zero, List.getD_cons_succ, List.not_mem_nil, false_implies, implies_true, List.getElem?_toArray, Option.bind_some, List.set_cons_zero, List.set_cons_succ, List.take_succ_cons, List.take_zero, List.drop_succ_cons, List.drop_zero, List.drop_nil, List.take_nil, List.forall_mem_cons, List.forall_mem_nil, V.u8.injEq, exists_eq', Nat.zero_mul, Nat.one_mul, Nat.zero_add, Nat.mul_one, Nat.add_zero, Int.toNat_natCast, Int.cast_ofNat_Int, ne_eq, not_true_eq_false, not_false_eq_true, List.length_set, List.length_append, List.length_take, List.length_drop, List.length_replicate, Option.isSome_none, Option.isSome_some, w64_of, Bool.not_true, Bool.not_false, Bool.true_and, Bool.false_and, Bool.and_true, Bool.and_false, Bool.true_or, Bool.false_or, Bool.or_true, Bool.or_false, Bool.not_eq_true', decide_eq_false_iff_not, beq_self_eq_true, List.take_length, Nat.le_refl, Int.le_refl, Blk.mk.injEq, c0, c1, c2, hp.1.1, hp.2.1, hm, l1, l2, l3, l4, l5, l6, l8, splice_all, List.take_of_length_le]
  refine goCallD_pure0 (s6) ?_
  simp only [go_sem, ↓reduceIte, Nat.reduceEqDiff, Nat.reduceLT, Nat.reduceLeDiff, Nat.reduceAdd, Nat.reduceSub, Nat.reduceMul, Nat.reduceMod, Nat.reduceDiv, Int.reduceLE, Int.reduceLT, Int.reduceToNat, Int.reduceAdd, Int.reduceSub, Int.reduceMul, Int.reduceEq, Int.reduceNeg, BitVec.reduceOfInt, BitVec.reduceToNat, BitVec.reduceEq, BitVec.reduceNe, BitVec.reduceLT, reduceCtorEq, and_true, true_and, and_self, Nat.succ_ne_self, decide_true, decide_false, Bool.false_eq_true, Nat.one_ne_zero, Nat.zero_ne_one, Nat.not_lt_zero, Nat.zero_lt_succ, ge_iff_le, gt_iff_lt, decide_eq_true_eq, Option.some.injEq, List.getElem?_cons_zero, List.getElem?_cons_succ, List.length_cons, List.length_nil, Int.natCast_zero, List.map_cons, List.map_nil, List.append_nil, List.nil_append, List.cons_append, vconv, Option.map_some, Option.map_none, List.getD_cons_zero, List.getD_cons_succ, List.not_mem_nil, false_implies, implies_true, List.getElem?_toArray, Option.bind_some, List.set_cons_zero, List.set_cons_succ, List.take_succ_cons, List.take_zero, List.drop_succ_cons, List.drop_zero, List.drop_nil, List.take_nil, List.forall_mem_cons, List.forall_mem_nil, V.u8.injEq, exists_eq', Nat.zero_mul, Nat.one_mul, Nat.zero_add, Nat.mul_one, Nat.add_zero, Int.toNat_natCast, Int.cast_ofNat_Int, ne_eq, not_true_eq_false, not_false_eq_true, List.length_set, List.length_append, List.length_take, List.length_drop, List.length_replicate, Option.isSome_none, Option.isSome_some, w64_of, Bool.not_true, Bool.not_false, Bool.true_and, Bool.false_and, Bool.and_true, Bool.and_false, Bool.true_or, Bool.false_or, Bool.or_true, Bool.or_false, Bool.not_eq_true', decide_eq_false_iff_not, beq_self_eq_true, List.take_length, Nat.le_refl, Int.le_refl, Blk.mk.injEq, c0, c1, c2, hp.1.1, hp.2.1, hm, l1, l2, l3, l4, l5, l6, l8, splice_all, List.take_of_length_le]
  refine goCallD_pure0 (s7) ?_
  simp only [go_sem, ↓reduceIte, Nat.reduceEqDiff, Nat.reduceLT, Nat.reduceLeDiff, Nat.reduceAdd, Nat.reduceSub, Nat.reduceMul, Nat.reduceMod, Nat.reduceDiv, Int.reduceLE, Int.reduceLT, Int.reduceToNat, Int.reduceAdd, Int.reduceSub, Int.reduceMul, Int.reduceEq, Int.reduceNeg, BitVec.reduceOfInt, BitVec.reduceToNat, BitVec.reduceEq, BitVec.reduceNe, BitVec.reduceLT, reduceCtorEq, and_true, true_and, and_self, Nat.succ_ne_self, decide_true, decide_false, Bool.false_eq_true, Nat.one_ne_zero, Nat.zero_ne_one, Nat.not_lt_zero, Nat.zero_lt_succ, ge_iff_le, gt_iff_lt, decide_eq_true_eq, Option.some.injEq, List.getElem?_cons_zero, List.getElem?_cons_succ, List.length_cons, List.length_nil, Int.natCast_zero, List.map_cons, List.map_nil, List.append_nil, List.nil_append, List.cons_append, vconv, Option.map_some, Option.map_none, List.getD_cons_zero, List.getD_cons_succ, List.not_mem_nil, false_implies, implies_true, List.getElem?_toArray, Option.bind_some, List.set_cons_zero, List.set_cons_succ, List.take_succ_cons, List.take_zero, List.drop_succ_cons, List.drop_zero, List.drop_nil, List.take_nil, List.forall_mem_cons, List.forall_mem_nil, V.u8.injEq, exists_eq', Nat.zero_mul, Nat.one_mul, Nat.zero_add, Nat.mul_one, Nat.add_zero, Int.toNat_natCast, Int.cast_ofNat_Int, ne_eq, not_true_eq_false, not_false_eq_true, List.length_set, List.length_append, List.length_take, List.length_drop, List.length_replicate, Option.isSome_none, Option.isSome_some, w64_of, Bool.not_true, Bool.not_false, Bool.true_and, Bool.false_and, Bool.and_true, Bool.and_false, Bool.true_or, Bool.false_or, Bool.or_true, Bool.or_false, Bool.not_eq_true', decide_eq_false_iff_not, beq_self_eq_true, List.take_length, Nat.le_refl, Int.le_refl, Blk.mk.injEq, c0, c1, c2, hp.1.1, hp.2.1, hm, l1, l2, l3, l4, l5, l6, l8, splice_all, List.take_of_length_le]
  refine goCallD_pure0 (s8) ?_
  simp only [go_sem, ↓reduceIte, Nat.reduceEqDiff, Nat.reduceLT, Nat.reduceLeDiff, Nat.reduceAdd, Nat.reduceSub, Nat.reduceMul, Nat.reduceMod, Nat.reduceDiv, Int.reduceLE, Int.reduceLT, Int.reduceToNat, Int.reduceAdd, Int.reduceSub, Int.reduceMul, Int.reduceEq, Int.reduceNeg, BitVec.reduceOfInt, BitVec.reduceToNat, BitVec.reduceEq, BitVec.reduceNe, BitVec.reduceLT, reduceCtorEq, and_true, true_and, and_self, Nat.succ_ne_self, decide_true, decide_false, Bool.false_eq_true, Nat.one_ne_zero, Nat.zero_ne_one, Nat.not_lt_zero, Nat.zero_lt_succ, ge_iff_le, gt_iff_lt, decide_eq_true_eq, Option.some.injEq, List.getElem?_cons_zero, List.getElem?_cons_succ, List.length_cons, List.length_nil, Int.natCast_zero, List.map_cons, List.map_nil, List.append_nil, List.nil_append, List.cons_append, vconv, Option.map_some, Option.map_none, List.getD_cons_zero, List.getD_cons_succ, List.not_mem_nil, false_implies, implies_true, List.getElem?_toArray, Option.bind_some, List.set_cons_zero, List.set_cons_succ, List.take_succ_cons, List.take_zero, List.drop_succ_cons, List.drop_zero, List.drop_nil, List.take_nil, List.forall_mem_cons, List.forall_mem_nil, V.u8.injEq, exists_eq', Nat.zero_mul, Nat.one_mul, Nat.zero_add, Nat.mul_one, Nat.add_zero, Int.toNat_natCast, Int.cast_ofNat_Int, ne_eq, not_true_eq_false, not_false_eq_true, List.length_set, List.length_append, List.length_take, List.length_drop, List.length_replicate, Option.isSome_none, Option.isSome_some, w64_of, Bool.not_true, Bool.not_false, Bool.true_and, Bool.false_and, Bool.and_true, Bool.and_false, Bool.true_or, Bool.false_or, Bool.or_true, Bool.or_false, Bool.not_eq_true', decide_eq_false_iff_not, beq_self_eq_true, List.take_length, Nat.le_refl, Int.le_refl, Blk.mk.injEq, c0, c1, c2, hp.1.1, hp.2.1, hm, hm2, l1, l2, l3, l4, l5, l6, l8, splice_all, List.take_of_length_le, build1_len, build2]
  kernel_rfl
theorem add_spec (p q : Pt) (x : List Int) (hp : okP p) (hq : okP q) (hx : okI x) : PureFn Try.prog 73 [.agg (cellsP p), .agg (cellsP q), .agg (x.map .i64)] (.agg (cellsP (addPt p q x))) := by
  have hm : min 16 16 = 16 := rfl
  have hm2 : min 32 32 = 32 := rfl
  have s1 := plusI_spec p.1 p.2 (-1) hp.1 hp.2 (by decide)
  rw [show plusI p.1 p.2 (-1) = pD p from rfl] at s1
  have s2 := plusI_spec q.1 q.2 1 hq.1 hq.2 (by decide)
  rw [show plusI q.1 q.2 1 = pS q from rfl] at s2
  have s3 := timesI_spec _ _ (okD hp) (okS hq)
  rw [show timesI (pD p) (pS q) = addA p q from rfl] at s3
  have s4 := plusI_spec p.1 p.2 1 hp.1 hp.2 (by decide)
  rw [show plusI p.1 p.2 1 = pS p from rfl] at s4
  have s5 := plusI_spec q.1 q.2 (-1) hq.1 hq.2 (by decide)
  rw [show plusI q.1 q.2 (-1) = pD q from rfl] at s5
  have s6 := timesI_spec _ _ (okS hp) (okD hq)
  rw [show timesI (pS p) (pD q) = addB p q from rfl] at s6
  have s7 := plusI_spec _ _ 1 (ok_addA hp hq) (ok_addB hp hq) (by decide)
  rw [show plusI (addA p q) (addB p q) 1 = aC p q from rfl] at s7
  have s8 := plusI_spec _ _ (-1) (ok_addA hp hq) (ok_addB hp hq) (by decide)
  rw [show plusI (addA p q) (addB p q) (-1) = aD p q from rfl] at s8
  have s9 := timesI_spec _ _ (ok_aC hp hq) (ok_aC hp hq)
  have s10 := timesI_spec _ _ (ok_aD hp hq) (ok_aD hp hq)
  rw [show timesI (aD p q) (aD p q) = aDD p q from rfl] at s10
  have s11 := timesI_spec _ _ hx (ok_aDD hp hq)
  have l1 := (okD hp).1
  have l2 := (okS hq).1
  have l3 := (ok_addA hp hq).1
  have l4 := (okS hp).1
  have l5 := (okD hq).1
  have l6 := (ok_addB hp hq).1
  have l7 := (ok_aC hp hq).1
  have l8 := (ok_aD hp hq).1
  have l9 := (ok_times (ok_aC hp hq) (ok_aC hp hq)).1
  have l10 := (ok_aDD hp hq).1
  have l11 := (ok_times hx (ok_aDD hp hq)).1
  have c0 := cellsP_len p hp
  have c1 := cellsP_1 p hp
  have c2 := cellsP_2 p hp
  have d0 := cellsP_len q hq
  have d1 := cellsP_1 q hq
  have d2 := cellsP_2 q hq
  unfold cellsP addPt
  simp only
  generalize timesI x (aDD p q) = r11 at *
  generalize timesI (aC p q) (aC p q) = r9 at *
  generalize aDD p q = r10 at *
  generalize aD p q = r8 at *
  generalize aC p q = r7 at *
  generalize addB p q = r6 at *
  generalize addA p q = r3 at *
  generalize pD p = r1 at *
  generalize pS q = r2 at *
  generalize pS p = r4 at *
  generalize pD q = r5 at *
  generalize hw : p.1 ++ p.2 = w at *
  generalize hw2 : q.1 ++ q.2 = w2 at *
  refine pure_of_vc (by kernel_rfl) (fn := Try.f73) (by kernel_rfl) Try.func73 rfl (by show 3 ≤ 48; decide) (by simp [lows_i64, lows_append, lows, V.low]) (by simp [lows_i64, lows_append, lows, V.low, lows_ite, low_ite]) (go_start ?_)
  simp only [go_sem, ↓reduceIte, Nat.reduceEqDiff, Nat.reduceLT, Nat.reduceLeDiff, Nat.reduceAdd, Nat.reduceSub, Nat.reduceMul, Nat.reduceMod, Nat.reduceDiv, Int.reduceLE, Int.reduceLT, Int.reduceToNat, Int.reduceAdd, Int.reduceSub, Int.reduceMul, Int.reduceEq, Int.reduceNeg, BitVec.reduceOfInt, BitVec.reduceToNat, BitVec.reduceEq, BitVec.reduceNe, BitVec.reduceLT, reduceCtorEq, and_true, true_and, and_self, Nat.succ_ne_self, decide_true, decide_false, Bool.false_eq_true, Nat.one_ne_zero, Nat.zero_ne_one, Nat.not_lt_zero, Nat.zero_lt_succ, ge_iff_le, gt_iff_lt, decide_eq_true_eq, Option.some.injEq, List.getElem?_cons_zero, List.getElem?_cons_succ, List.length_cons, List.length_nil, Int.natCast_zero, List.map_cons, List.map_nil, List.append_nil, List.nil_append, List.cons_append, vconv, Option.map_some, Option.map_none, List.getD_cons_zero, List.getD_cons_succ, List.not_mem_nil, false_implies, implies_true, List.getElem?_toArray, Option.bind_some, List.set_cons_zero, List.set_cons_succ, List.take_succ_cons, List.take_zero, List.drop_succ_cons, List.drop_zero, List.drop_nil, List.take_nil, List.forall_mem_cons, List.forall_mem_nil, V.u8.injEq, exists_eq', Nat.zero_mul, Nat.one_mul, Nat.zero_add, Nat.mul_one, Nat.add_zero, Int.toNat_natCast, Int.cast_ofNat_Int, ne_eq, not_true_eq_false, not_false_eq_true, List.length_set, List.length_append, List.length_take, List.length_drop, List.length_replicate, Option.isSome_none, Option.isSome_some, w64_of, Bool.not_true, Bool.not_false, Bool.true_and, Bool.false_and, Bool.and_true, Bool.and_false, Bool.true_or, Bool.false_or, Bool.or_true, Bool.or_false, Bool.not_eq_true', decide_eq_false_iff_not, beq_self_eq_true, List.take_length, Nat.le_refl, Int.le_refl, Blk.mk.injEq, Try.ntmps73, Try.results73, hp.1.1, hp.2.1, hq.1.1, hq.2.1, c0, c1, c2, d0, d1, d2, hx.1, hm, hm2, List.take_of_length_le]
  refine goCallD_pure0 (s1) ?_
  simp only [go_sem, ↓reduceIte, Nat.reduceEqDiff, Nat.reduceLT, Nat.reduceLeDiff, Nat.reduceAdd, Nat.reduceSub, Nat.reduceMul, Nat.reduceMod, Nat.reduceDiv, Int.reduceLE, Int.reduceLT, Int.reduceToNat, Int.reduceAdd, Int.reduceSub, Int.reduceMul, Int.reduceEq, Int.reduceNeg, BitVec.reduceOfInt, BitVec.reduceToNat, BitVec.reduceEq, BitVec.reduceNe, BitVec.reduceLT, reduceCtorEq, and_true, true_and, and_self, Nat.succ_ne_self, decide_true, decide_false, Bool.false_eq_true, Nat.one_ne_zero, Nat.zero_ne_one, Nat.not_lt_zero, Nat.zero_lt_succ, ge_iff_le, gt_iff_lt, decide_eq_true_eq, Option.some.injEq, List.getElem?_cons_zero, List.getElem?_cons_succ, List.length_cons, List.length_nil, Int.natCast_zero, List.map_cons, List.map_nil, List.append_nil, List.nil_append, List.cons_append, vconv, Option.map_some, Option.map_none, List.getD_cons_zero, List.getD_cons_succ, List.not_mem_nil, false_implies, implies_true, List.getElem?_toArray, Option.bind_some, List.set_cons_zero, List.set_cons_succ, List.take_succ_cons, List.take_zero, List.drop_succ_cons, List.drop_zero, List.drop_nil, List.take_nil, List.forall_mem_cons, List.forall_mem_nil, V.u8.injEq, exists_eq', Nat.zero_mul, Nat.one_mul, Nat.zero_add, Nat.mul_one, Nat.add_zero, Int.toNat_natCast, Int.cast_ofNat_Int, ne_eq, not_true_eq_false, not_false_eq_true, List.length_set, List.length_append, List.length_take, List.length_drop, List.length_replicate, Option.isSome_none, Option.isSome_some, w64_of, Bool.not_true, Bool.not_false, Bool.true_and, Bool.false_and, Bool.and_true, Bool.and_false, Bool.true_or, Bool.false_or, Bool.or_true, Bool.or_false, Bool.not_eq_true', decide_eq_false_iff_not, beq_self_eq_true, List.take_length, Nat.le_refl, Int.le_refl, Blk.mk.injEq, c0, c1, c2, d0, d1, d2, hp.1.1, hp.2.1, hq.1.1, hq.2.1, hx.1, hm, hm2, l1, l2, l3, l4, l5, l6, l7, l8, l9, l10, l11, splice_all, List.take_of_length_le, build1_len, build2]
  refine goCallD_pure0 (s2) ?_
  simp only [go_sem, ↓reduceIte, Nat.reduceEqDiff, Nat.reduceLT, Nat.reduceLeDiff, Nat.reduceAdd, Nat.reduceSub, Nat.reduceMul, Nat.reduceMod, Nat.reduceDiv, Int.reduceLE, Int.reduceLT, Int.reduceToNat, Int.reduceAdd, Int.reduceSub, Int.reduceMul, Int.reduceEq, Int.reduceNeg, BitVec.reduceOfInt, BitVec.reduceToNat, BitVec.reduceEq, BitVec.reduceNe, BitVec.reduceLT, reduceCtorEq, and_true, true_and, and_self, Nat.succ_ne_self, decide_true, decide_false, Bool.false_eq_true, Nat.one_ne_zero, Nat.zero_ne_one, Nat.not_lt_zero, Nat.zero_lt_succ, ge_iff_le, gt_iff_lt, decide_eq_true_eq, Option.some.injEq, List.getElem?_cons_zero, List.getElem?_cons_succ, List.length_cons, List.length_nil, Int.natCast_zero, List.map_cons, List.map_nil, List.append_nil, List.nil_append, List.cons_append, vconv, Option.map_some, Option.map_none, List.getD_cons_zero, List.getD_cons_succ, List.not_mem_nil, false_implies, implies_true, List.getElem?_toArray, Option.bind_some, List.set_cons_zero, List.set_cons_succ, List.take_succ_cons, List.take_zero, List.drop_succ_cons, List.drop_zero, List.drop_nil, List.take_nil, List.forall_mem_cons, List.forall_mem_nil, V.u8.injEq, exists_eq', Nat.zero_mul, Nat.one_mul, Nat.zero_add, Nat.mul_one, Nat.add_zero, Int.toNat_natCast, Int.cast_ofNat_Int, ne_eq, not_true_eq_false, not_false_eq_true, List.length_set, List.length_append, List.length_take, List.length_drop, List.length_replicate, Option.isSome_none, Option.isSome_some, w64_of, Bool.not_true, Bool.not_false, Bool.true_and, Bool.false_and, Bool.and_true, Bool.and_false, Bool.true_or, Bool.false_or, Bool.or_true, Bool.or_false, Bool.not_eq_true', decide_eq_false_iff_not, beq_self_eq_true, List.take_length, Nat.le_refl, Int.le_refl, Blk.mk.injEq, c0, c1, c2, d0, d1, d2, hp.1.1, hp.2.1, hq.1.1, hq.2.1, hx.1, hm, hm2, l1, l2, l3, l4, l5, l6, l7, l8, l9, l10, l11, splice_all, List.take_of_length_le, build1_len, build2]
  refine goCallD_pure0 (s3) ?_
  simp only [go_sem, ↓reduceIte, Nat.reduceEqDiff, Nat.reduceLT, Nat.reduceLeDiff, Nat.reduceAdd, Nat.reduceSub, Nat.reduceMul, Nat.reduceMod, Nat.reduceDiv, Int.reduceLE, Int.reduceLT, Int.reduceToNat, Int.reduceAdd, Int.reduceSub, Int.reduceMul, Int.reduceEq, Int.reduceNeg, BitVec.reduceOfInt, BitVec.reduceToNat, BitVec.reduceEq, BitVec.reduceNe, BitVec.reduceLT, reduceCtorEq, and_true, true_and, and_self, Nat.succ_ne_self, decide_true, decide_false, Bool.false_eq_true, Nat.one_ne_zero, Nat.zero_ne_one, Nat.not_lt_zero, Nat.zero_lt_succ, ge_iff_le, gt_iff_lt, decide_eq_true_eq, Option.some.injEq, List.getElem?_cons_zero, List.getElem?_cons_succ, List.length_cons, List.length_nil, Int.natCast_zero, List.map_cons, List.map_nil, List.append_nil, List.nil_append, List.cons_append, vconv, Option.map_some, Option.map_none, List.getD_cons_zero, List.getD_cons_succ, List.not_mem_nil, false_implies, implies_true, List.getElem?_toArray, Option.bind_some, List.set_cons_zero, List.set_cons_succ, List.take_succ_cons, List.take_zero, List.drop_succ_cons, List.drop_zero, List.drop_nil, List.take_nil, List.forall_mem_cons, List.forall_mem_nil, V.u8.injEq, exists_eq', Nat.zero_mul, Nat.one_mul, Nat.zero_add, Nat.mul_one, Nat.add_zero, Int.toNat_natCast, Int.cast_ofNat_Int, ne_eq, not_true_eq_false, not_false_eq_true, List.length_set, List.length_append, List.length_take, List.length_drop, List.length_replicate, Option.isSome_none, Option.isSome_some, w64_of, Bool.not_true, Bool.not_false, Bool.true_and, Bool.false_and, Bool.and_true, Bool.and_false, Bool.true_or, Bool.false_or, Bool.or_true, Bool.or_false, Bool.not_eq_true', decide_eq_false_iff_not, beq_self_eq_true, List.take_length, Nat.le_refl, Int.le_refl, Blk.mk.injEq, c0, c1, c2, d0, d1, d2, hp.1.1, hp.2.1, hq.1.1, hq.2.1, hx.1, hm, hm2, l1, l2, l3, l4, l5, l6, l7, l8, l9, l10, l11, splice_all, List.take_of_length_le, build1_len, build2]
  refine ⟨by kernel_rfl, ?_⟩
  refine goCallD_pure0 (s4) ?_
  simp only [go_sem, ↓reduceIte, Nat.reduceEqDiff, Nat.reduceLT, Nat.reduceLeDiff, Nat.reduceAdd, Nat.reduceSub, Nat.reduceMul, Nat.reduceMod, Nat.reduceDiv, Int.reduceLE, Int.reduceLT, Int.reduceToNat, Int.reduceAdd, Int.reduceSub, Int.reduceMul, Int.reduceEq, Int.reduceNeg, BitVec.reduceOfInt, BitVec.reduceToNat, BitVec.reduceEq, BitVec.reduceNe, BitVec.reduceLT, reduceCtorEq, and_true, true_and, and_self, Nat.succ_ne_self, decide_true, decide_false, Bool.false_eq_true, Nat.one_ne_zero, Nat.zero_ne_one, Nat.not_lt_zero, Nat.zero_lt_succ, ge_iff_le, gt_iff_lt, decide_eq_true_eq, Option.some.injEq, List.getElem?_cons_zero, List.getElem?_cons_succ, List.length_cons, List.length_nil, Int.natCast_zero, List.map_cons, List.map_nil, List.append_nil, List.nil_append, List.cons_append, vconv, Option.map_some, Option.map_none, List.getD_cons_zero, List.getD_cons_succ, List.not_mem_nil, false_implies, implies_true, List.getElem?_toArray, Option.bind_some, List.set_cons_zero, List.set_cons_succ, List.take_succ_cons, List.take_zero, List.drop_succ_cons, List.drop_zero, List.drop_nil, List.take_nil, List.forall_mem_cons, List.forall_mem_nil, V.u8.injEq, exists_eq', Nat.zero_mul, Nat.one_mul, Nat.zero_add, Nat.mul_one, Nat.add_zero, Int.toNat_natCast, Int.cast_ofNat_Int, ne_eq, not_true_eq_false, not_false_eq_true, List.length_set, List.length_append, List.length_take, List.length_drop, List.length_replicate, Option.isSome_none, Option.isSome_some, w64_of, Bool.not_true, Bool.not_false, Bool.true_and, Bool.false_and, Bool.and_true, Bool.and_false, Bool.true_or, Bool.false_or, Bool.or_true, Bool.or_false, Bool.not_eq_true', decide_eq_false_iff_not, beq_self_eq_true, List.take_length, Nat.le_refl, Int.le_refl, Blk.mk.injEq, c0, c1, c2, d0, d1, d2, hp.1.1, hp.2.1, hq.1.1, hq.2.1, hx.1, hm, hm2, l1, l2, l3, l4, l5, l6, l7, l8, l9, l10, l11, splice_all, List.take_of_length_le, build1_len, build2]
  refine goCallD_pure0 (s5) ?_
  simp only [go_sem, ↓reduceIte, Nat.reduceEqDiff, Nat.reduceLT, Nat.reduceLeDiff, Nat.reduceAdd, Nat.reduceSub, Nat.reduceMul, Nat.reduceMod, Nat.reduceDiv, Int.reduceLE, Int.reduceLT, Int.reduceToNat, Int.reduceAdd, Int.reduceSub, Int.reduceMul, Int.reduceEq, Int.reduceNeg, BitVec.reduceOfInt, BitVec.reduceToNat, BitVec.reduceEq, BitVec.reduceNe, BitVec.reduceLT, reduceCtorEq, and_true, true_and, and_self, Nat.succ_ne_self, decide_true, decide_false, Bool.false_eq_true, Nat.one_ne_zero, Nat.zero_ne_one, Nat.not_lt_zero, Nat.zero_lt_succ, ge_iff_le, gt_iff_lt, decide_eq_true_eq, Option.some.injEq, List.getElem?_cons_zero, List.getElem?_cons_succ, List.length_cons, List.length_nil, Int.natCast_zero, List.map_cons, List.map_nil, List.append_nil, List.nil_append, List.cons_append, vconv, Option.map_some, Option.map_none, List.getD_cons_zero, List.getD_cons_succ, List.not_mem_nil, false_implies, implies_true, List.getElem?_toArray, Option.bind_some, List.set_cons_zero, List.set_cons_succ, List.take_succ_cons, List.take_zero, List.drop_succ_cons, List.drop_zero, List.drop_nil, List.take_nil, List.forall_mem_cons, List.forall_mem_nil, V.u8.injEq, exists_eq', Nat.zero_mul, Nat.one_mul, Nat.zero_add, Nat.mul_one, Nat.add_zero, Int.toNat_natCast, Int.cast_ofNat_Int, ne_eq, not_true_eq_false, not_false_eq_true, List.length_set, List.length_append, List.length_take, List.length_drop, List.length_replicate, Option.isSome_none, Option.isSome_some, w64_of, Bool.not_true, Bool.not_false, Bool.true_and, Bool.false_and, Bool.and_true, Bool.and_false, Bool.true_or, Bool.false_or, Bool.or_true, Bool.or_false, Bool.not_eq_true', decide_eq_false_iff_not, beq_self_eq_true, List.take_length, Nat.le_refl, Int.le_refl, Blk.mk.injEq, c0, c1, c2, d0, d1, d2, hp.1.1, hp.2.1, hq.1.1, hq.2.1, hx.1, hm, hm2, l1, l2, l3, l4, l5, l6, l7, l8, l9, l10, l11, splice_all, List.take_of_length_le, build1_len, build2]
  refine goCallD_pure0 (s6) ?_
  simp only [go_sem, ↓reduceIte, Nat.reduceEqDiff, Nat.reduceLT, Nat.reduceLeDiff, Nat.reduceAdd, Nat.reduceSub, Nat.reduceMul, Nat.reduceMod, Nat.reduceDiv, Int.reduceLE, Int.reduceLT, Int.reduceToNat, Int.reduceAdd, Int.reduceSub, Int.reduceMul, Int.reduceEq, Int.reduceNeg, BitVec.reduceOfInt, BitVec.reduceToNat, BitVec.reduceEq, BitVec.reduceNe, BitVec.reduceLT, reduceCtorEq, and_true, true_and, and_self, Nat.succ_ne_self, decide_true, decide_false, Bool.false_eq_true, Nat.one_ne_zero, Nat.zero_ne_one, Nat.not_lt_zero, Nat.zero_lt_succ, ge_iff_le, gt_iff_lt, decide_eq_true_eq, Option.some.injEq, List.getElem?_cons_zero, List.getElem?_cons_succ, List.length_cons, List.length_nil, Int.natCast_zero, List.map_cons, List.map_nil, List.append_nil, List.nil_append, List.cons_append, vconv, Option.map_some, Option.map_none, List.getD_cons_zero, List.getD_cons_succ, List.not_mem_nil, false_implies, implies_true, List.getElem?_toArray, Option.bind_some, List.set_cons_zero, List.set_cons_succ, List.take_succ_cons, List.take_zero, List.drop_succ_cons, List.drop_zero, List.drop_nil, List.take_nil, List.forall_mem_cons, List.forall_mem_nil, V.u8.injEq, exists_eq', Nat.zero_mul, Nat.one_mul, Nat.zero_add, Nat.mul_one, Nat.add_zero, Int.toNat_natCast, Int.cast_ofNat_Int, ne_eq, not_true_eq_false, not_false_eq_true, List.length_set, List.length_append, List.length_take, List.length_drop, List.length_replicate, Option.isSome_none, Option.isSome_some, w64_of, Bool.not_true, Bool.not_false, Bool.true_and, Bool.false_and, Bool.and_true, Bool.and_false, Bool.true_or, Bool.false_or, Bool.or_true, Bool.or_false, Bool.not_eq_true', decide_eq_false_iff_not, beq_self_eq_true, List.take_length, Nat.le_refl, Int.le_refl, Blk.mk.injEq, c0, c1, c2, d0, d1, d2, hp.1.1, hp.2.1, hq.1.1, hq.2.1, hx.1, hm, hm2, l1, l2, l3, l4, l5, l6, l7, l8, l9, l10, l11, splice_all, List.take_of_length_le, build1_len, build2]
  refine ⟨by kernel_rfl, ?_⟩
  refine goCallD_pure0 (s7) ?_
  simp only [go_sem, ↓reduceIte, Nat.reduceEqDiff, Nat.reduceLT, Nat.reduceLeDiff, Nat.reduceAdd, Nat.reduceSub, Nat.reduceMul, Nat.reduceMod, Nat.reduceDiv, Int.reduceLE, Int.reduceLT, Int.reduceToNat, Int.reduceAdd, Int.reduceSub, Int.reduceMul, Int.reduceEq, Int.reduceNeg, BitVec.reduceOfInt, BitVec.reduceToNat, BitVec.reduceEq, BitVec.reduceNe, BitVec.reduceLT, reduceCtorEq, and_true, true_and, and_self, Nat.succ_ne_self, decide_true, decide_false, Bool.false_eq_true, Nat.one_ne_zero, Nat.zero_ne_one, Nat.not_lt_zero, Nat.zero_lt_succ, ge_iff_le, gt_iff_lt, decide_eq_true_eq, Option.some.injEq, List.getElem?_cons_zero, List.getElem?_cons_succ, List.length_cons, List.length_nil, Int.natCast_zero, List.map_cons, List.map_nil, List.append_nil, List.nil_append, List.cons_append, vconv, Option.map_some, Option.map_none, List.getD_cons_zero, List.getD_cons_succ, List.not_mem_nil, false_implies, implies_true, List.getElem?_toArray, Option.bind_some, List.set_cons_zero, List.set_cons_succ, List.take_succ_cons, List.take_zero, List.drop_succ_cons, List.drop_zero, List.drop_nil, List.take_nil, List.forall_mem_cons, List.forall_mem_nil, V.u8.injEq, exists_eq', Nat.zero_mul, Nat.one_mul, Nat.zero_add, Nat.mul_one, Nat.add_zero, Int.toNat_natCast, Int.cast_ofNat_Int, ne_eq, not_true_eq_false, not_false_eq_true, List.length_set, List.length_append, List.length_take, List.length_drop, List.length_replicate, Option.isSome_none, Option.isSome_some, w64_of, Bool.not_true, Bool.not_false, Bool.true_and, Bool.false_and, Bool.and_true, Bool.and_false, Bool.true_or, Bool.false_or, Bool.or_true, Bool.or_false, Bool.not_eq_true', decide_eq_false_iff_not, beq_self_eq_true, List.take_length, Nat.le_refl, Int.le_refl, Blk.mk.injEq, c0, c1, c2, d0, d1, d2, hp.1.1, hp.2.1, hq.1.1, hq.2.1, hx.1, hm, hm2, l1, l2, l3, l4, l5, l6, l7, l8, l9, l10, l11, splice_all, List.take_of_length_le, build1_len, build2]
  refine goCallD_pure0 (s8) ?_
  simp only [go_sem, ↓reduceIte, Nat.reduceEqDiff, Nat.reduceLT, Nat.reduceLeDiff, Nat.reduceAdd, Nat.reduceSub, Nat.reduceMul, Nat.reduceMod, Nat.reduceDiv, Int.reduceLE, Int.reduceLT, Int.reduceToNat, Int.reduceAdd, Int.reduceSub, Int.reduceMul, Int.reduceEq, Int.reduceNeg, BitVec.reduceOfInt, BitVec.reduceToNat, BitVec.reduceEq, BitVec.reduceNe, BitVec.reduceLT, reduceCtorEq, and_true, true_and, and_self, Nat.succ_ne_self, decide_true, decide_false, Bool.false_eq_true, Nat.one_ne_zero, Nat.zero_ne_one, Nat.not_lt_zero, Nat.zero_lt_succ, ge_iff_le, gt_iff_lt, decide_eq_true_eq, Option.some.injEq, List.getElem?_cons_zero, List.getElem?_cons_succ, List.length_cons, List.length_nil, Int.natCast_zero, List.map_cons, List.map_nil, List.append_nil, List.nil_append, List.cons_append, vconv, Option.map_some, Option.map_none, List.getD_cons_zero, List.getD_cons_succ, List.not_mem_nil, false_implies, implies_true, List.getElem?_toArray, Option.bind_some, List.set_cons_zero, List.set_cons_succ, List.take_succ_cons, List.take_zero, List.drop_succ_cons, List.drop_zero, List.drop_nil, List.take_nil, List.forall_mem_cons, List.forall_mem_nil, V.u8.injEq, exists_eq', Nat.zero_mul, Nat.one_mul, Nat.zero_add, Nat.mul_one, Nat.add_zero, Int.toNat_natCast, Int.cast_ofNat_Int, ne_eq, not_true_eq_false, not_false_eq_true, List.length_set, List.length_append, List.length_take, List.length_drop, List.length_replicate, Option.isSome_none, Option.isSome_some, w64_of, Bool.not_true, Bool.not_false, Bool.true_and, Bool.false_and, Bool.and_true, Bool.and_false, Bool.true_or, Bool.false_or, Bool.or_true, Bool.or_false, Bool.not_eq_true', decide_eq_false_iff_not, beq_self_eq_true, List.take_length, Nat.le_refl, Int.le_refl, Blk.mk.injEq, c0, c1, c2, d0, d1, d2, hp.1.1, hp.2.1, hq.1.1, hq.2.1, hx.1, hm, hm2, l1, l2, l3, l4, l5, l6, l7, l8, l9, l10, l11, splice_all, List.take_of_length_le, build1_len, build2]
  refine ⟨by kernel_rfl, ?_⟩
  refine goCallD_pure0 (s9) ?_
  simp only [go_sem, ↓reduceIte, Nat.reduceEqDiff, Nat.reduceLT, Nat.reduceLeDiff, Nat.reduceAdd, Nat.reduceSub, Nat.reduceMul, Nat.reduceMod, Nat.reduceDiv, Int.reduceLE, Int.reduceLT, Int.reduceToNat, Int.reduceAdd, Int.reduceSub, Int.reduceMul, Int.reduceEq, Int.reduceNeg, BitVec.reduceOfInt, BitVec.reduceToNat, BitVec.reduceEq, BitVec.reduceNe, BitVec.reduceLT, reduceCtorEq, and_true, true_and, and_self, Nat.succ_ne_self, decide_true, decide_false, Bool.false_eq_true, Nat.one_ne_zero, Nat.zero_ne_one, Nat.not_lt_zero, Nat.zero_lt_succ, ge_iff_le, gt_iff_lt, decide_eq_true_eq, Option.some.injEq, List.getElem?_cons_zero, List.getElem?_cons_succ, List.length_cons, List.length_nil, Int.natCast_zero, List.map_cons, List.map_nil, List.append_nil, List.nil_append, List.cons_append, vconv, Option.map_some, Option.map_none, List.getD_cons_zero, List.getD_cons_succ, List.not_mem_nil, false_implies, implies_true, List.getElem?_toArray, Option.bind_some, List.set_cons_zero, List.set_cons_succ, List.take_succ_cons, List.take_zero, List.drop_succ_cons, List.drop_zero, List.drop_nil, List.take_nil, List.forall_mem_cons, List.forall_mem_nil, V.u8.injEq, exists_eq', Nat.zero_mul, Nat.one_mul, Nat.zero_add, Nat.mul_one, Nat.add_zero, Int.toNat_natCast, Int.cast_ofNat_Int, ne_eq, not_true_eq_false, not_false_eq_true, List.length_set, List.length_append, List.length_take, List.length_drop, List.length_replicate, Option.isSome_none, Option.isSome_some, w64_of, Bool.not_true, Bool.not_false, Bool.true_and, Bool.false_and, Bool.and_true, Bool.and_false, Bool.true_or, Bool.false_or, Bool.or_true, Bool.or_false, Bool.not_eq_true', decide_eq_false_iff_not, beq_self_eq_true, List.take_length, Nat.le_refl, Int.le_refl, Blk.mk.injEq, c0, c1, c2, d0, d1, d2, hp.1.1, hp.2.1, hq.1.1, hq.2.1, hx.1, hm, hm2, l1, l2, l3, l4, l5, l6, l7, l8, l9, l10, l11, splice_all, List.take_of_length_le, build1_len, build2]
  refine goCallD_pure0 (s10) ?_
  simp only [go_sem, ↓reduceIte, Nat.reduceEqDiff, Nat.reduceLT, Nat.reduceLeDiff, Nat.reduceAdd, Nat.reduceSub, Nat.reduceMul, Nat.reduceMod, Nat.reduceDiv, Int.reduceLE, Int.reduceLT, Int.reduceToNat, Int.reduceAdd, Int.reduceSub, Int.reduceMul, Int.reduceEq, Int.reduceNeg, BitVec.reduceOfInt, BitVec.reduceToNat, BitVec.reduceEq, BitVec.reduceNe, BitVec.reduceLT, reduceCtorEq, and_true, true_and, and_self, Nat.succ_ne_self, decide_true, decide_false, Bool.false_eq_true, Nat.one_ne_zero, Nat.zero_ne_one, Nat.not_lt_zero, Nat.zero_lt_succ, ge_iff_le, gt_iff_lt, decide_eq_true_eq, Option.some.injEq, List.getElem?_cons_zero, List.getElem?_cons_succ, List.length_cons, List.length_nil, Int.natCast_zero, List.map_cons, List.map_nil, List.append_nil, List.nil_append, List.cons_append, vconv, Option.map_some, Option.map_none, List.getD_cons_zero, List.getD_cons_succ, List.not_mem_nil, false_implies, implies_true, List.getElem?_toArray, Option.bind_some, List.set_cons_zero, List.set_cons_succ, List.take_succ_cons, List.take_zero, List.drop_succ_cons, List.drop_zero, List.drop_nil, List.take_nil, List.forall_mem_cons, List.forall_mem_nil, V.u8.injEq, exists_eq', Nat.zero_mul, Nat.one_mul, Nat.zero_add, Nat.mul_one, Nat.add_zero, Int.toNat_natCast, Int.cast_ofNat_Int, ne_eq, not_true_eq_false, not_false_eq_true, List.length_set, List.length_append, List.length_take, List.length_drop, List.length_replicate, Option.isSome_none, Option.isSome_some, w64_of, Bool.not_true, Bool.not_false, Bool.true_and, Bool.false_and, Bool.and_true, Bool.and_false, Bool.true_or, Bool.false_or, Bool.or_true, Bool.or_false, Bool.not_eq_true', decide_eq_false_iff_not, beq_self_eq_true, List.take_length, Nat.le_refl, Int.le_refl, Blk.mk.injEq, c0, c1, c2, d0, d1, d2, hp.1.1, hp.2.1, hq.1.1, hq.2.1, hx.1, hm, hm2, l1, l2, l3, l4, l5, l6, l7, l8, l9, l10, l11, splice_all, List.take_of_length_le, build1_len, build2]
  refine goCallD_pure0 (s11) ?_
  simp only [go_sem, ↓reduceIte, Nat.reduceEqDiff, Nat.reduceLT, Nat.reduceLeDiff, Nat.reduceAdd, Nat.reduceSub, Nat.reduceMul, Nat.reduceMod, Nat.reduceDiv, Int.reduceLE, Int.reduceLT, Int.reduceToNat, Int.reduceAdd, Int.reduceSub, Int.reduceMul, Int.reduceEq, Int.reduceNeg, BitVec.reduceOfInt, BitVec.reduceToNat, BitVec.reduceEq, BitVec.reduceNe, BitVec.reduceLT, reduceCtorEq, and_true, true_and, and_self, Nat.succ_ne_self, decide_true, decide_false, Bool.false_eq_true, Nat.one_ne_zero, Nat.zero_ne_one, Nat.not_lt_zero, Nat.zero_lt_succ, ge_iff_le, gt_iff_lt, decide_eq_true_eq, Option.some.injEq, List.getElem?_cons_zero, List.getElem?_cons_succ, List.length_cons, List.length_nil, Int.natCast_zero, List.map_cons, List.map_nil, List.append_nil, List.nil_append, List.cons_append, vconv, Option.map_some, Option.map_none, List.getD_cons_zero, List.getD_cons_succ, List.not_mem_nil, false_implies, implies_true, List.getElem?_toArray, Option.bind_some, List.set_cons_zero, List.set_cons_succ, List.take_succ_cons, List.take_zero, List.drop_succ_cons, List.drop_zero, List.drop_nil, List.take_nil, List.forall_mem_cons, List.forall_mem_nil, V.u8.injEq, exists_eq', Nat.zero_mul, Nat.one_mul, Nat.zero_add, Nat.mul_one, Nat.add_zero, Int.toNat_natCast, Int.cast_ofNat_Int, ne_eq, not_true_eq_false, not_false_eq_true, List.length_set, List.length_append, List.length_take, List.length_drop, List.length_replicate, Option.isSome_none, Option.isSome_some, w64_of, Bool.not_true, Bool.not_false, Bool.true_and, Bool.false_and, Bool.and_true, Bool.and_false, Bool.true_or, Bool.false_or, Bool.or_true, Bool.or_false, Bool.not_eq_true', decide_eq_false_iff_not, beq_self_eq_true, List.take_length, Nat.le_refl, Int.le_refl, Blk.mk.injEq, c0, c1, c2, d0, d1, d2, hp.1.1, hp.2.1, hq.1.1, hq.2.1, hx.1, hm, hm2, l1, l2, l3, l4, l5, l6, l7, l8, l9, l10, l11, splice_all, List.take_of_length_le, build1_len, build2]
  kernel_rfl
end Go.Vm
end
section
namespace Go.Vm
open Go.Proofs
set_option maxRecDepth 20000
/-- What climb comes to behind c bits. -/
def climbI (x : List Int) (bits : List (BitVec 8)) : Nat → Pt × Pt
  | 0 => ((oneI, List.replicate 16 0), (x, oneI))
  | c + 1 => if bits.getD c 0 = 48#8 then (dblI (climbI x bits c).1, addPt (climbI x bits c).1 (climbI x bits c).2 x) else (addPt (climbI x bits c).1 (climbI x bits c).2 x, dblI (climbI x bits c).2)
theorem ok_zero : okI (List.replicate 16 0) := ⟨rfl, by decide⟩
theorem climb_ok (x : List Int) (bits : List (BitVec 8)) (hx : okI x) (c : Nat) : okP (climbI x bits c).1 ∧ okP (climbI x bits c).2 := by
  induction c with
  | zero => exact ⟨⟨ok_one, ok_zero⟩, ⟨hx, ok_one⟩⟩
  | succ c ih =>
    rw [climbI]
    split
    · exact ⟨ok_dbl ih.1, ok_add ih.1 ih.2 hx⟩
    · exact ⟨ok_add ih.1 ih.2 hx, ok_dbl ih.2⟩
theorem cellsP_one (p : Pt) : ∀ u ∈ cellsP p, u.one = true := by
  intro u hu
  unfold cellsP at hu
  obtain ⟨x, _, rfl⟩ := List.mem_map.1 hu
  rfl
theorem climb_spec (x : List Int) (bits : List (BitVec 8)) (hx : okI x) (hb : bits.length ≤ 1000) : ∀ c, c ≤ bits.length → PureFn Try.prog 55 [.str (bits.take c), .agg (x.map .i64)] (.tup [.agg (cellsP (climbI x bits c).1), .agg (cellsP (climbI x bits c).2)]) := by
  have hm : min 16 16 = 16 := rfl
  intro c
  induction c with
  | zero =>
    intro _
    have hol : oneI.length = 16 := rfl
    have b1 := build1_len x hx.1
    have b2 : splice (splice [V.i64 0, V.i64 0, V.i64 0, V.i64 0, V.i64 0, V.i64 0, V.i64 0, V.i64 0, V.i64 0, V.i64 0, V.i64 0, V.i64 0, V.i64 0, V.i64 0, V.i64 0, V.i64 0, V.i64 0, V.i64 0, V.i64 0, V.i64 0, V.i64 0, V.i64 0, V.i64 0, V.i64 0, V.i64 0, V.i64 0, V.i64 0, V.i64 0, V.i64 0, V.i64 0, V.i64 0, V.i64 0] 0 (x.map .i64)) 16 [V.i64 1, V.i64 0, V.i64 0, V.i64 0, V.i64 0, V.i64 0, V.i64 0, V.i64 0, V.i64 0, V.i64 0, V.i64 0, V.i64 0, V.i64 0, V.i64 0, V.i64 0, V.i64 0] = (x ++ oneI).map .i64 := build2 x oneI hx.1 rfl
    have b3 : (x ++ oneI).length = 32 := by rw [List.length_append, hx.1]; rfl
    have hm2 : min 32 32 = 32 := rfl
    refine pure_of_vc (by kernel_rfl) (fn := Try.f55) (by kernel_rfl) Try.func55 rfl (by show 2 ≤ 44; decide) (by simp [lows_i64, lows_append, cellsP, lows, V.low]) (by simp [lows_i64, lows_append, cellsP, lows, V.low, lows_ite, low_ite]) (go_start ?_)
    simp only [go_sem, ↓reduceIte, Nat.reduceEqDiff, Nat.reduceLT, Nat.reduceLeDiff, Nat.reduceAdd, Nat.reduceSub, Nat.reduceMul, Nat.reduceMod, Nat.reduceDiv, Int.reduceLE, Int.reduceLT, Int.reduceToNat, Int.reduceAdd, Int.reduceSub, Int.reduceMul, Int.reduceEq, Int.reduceNeg, BitVec.reduceOfInt, BitVec.reduceToNat, BitVec.reduceEq, BitVec.reduceNe, BitVec.reduceLT, reduceCtorEq, and_true, true_and, and_self, Nat.succ_ne_self, decide_true, decide_false, Bool.false_eq_true, Nat.one_ne_zero, Nat.zero_ne_one, Nat.not_lt_zero, Nat.zero_lt_succ, ge_iff_le, gt_iff_lt, decide_eq_true_eq, Option.some.injEq, List.getElem?_cons_zero, List.getElem?_cons_succ, List.length_cons, List.length_nil, Int.natCast_zero, List.map_cons, List.map_nil, List.append_nil, List.nil_append, List.cons_append, vconv, Option.map_some, Option.map_none, List.getD_cons_zero, List.getD_cons_succ, List.not_mem_nil, false_implies, implies_true, List.getElem?_toArray, Option.bind_some, List.set_cons_zero, List.set_cons_succ, List.take_succ_cons, List.take_zero, List.drop_succ_cons, List.drop_zero, List.drop_nil, List.take_nil, List.forall_mem_cons, List.forall_mem_nil, V.u8.injEq, exists_eq', Nat.zero_mul, Nat.one_mul, Nat.zero_add, Nat.mul_one, Nat.add_zero, Int.toNat_natCast, Int.cast_ofNat_Int, ne_eq, not_true_eq_false, not_false_eq_true, List.length_set, List.length_append, List.length_take, List.length_drop, List.length_replicate, Option.isSome_none, Option.isSome_some, w64_of, Bool.not_true, Bool.not_false, Bool.true_and, Bool.false_and, Bool.and_true, Bool.and_false, Bool.true_or, Bool.false_or, Bool.or_true, Bool.or_false, Bool.not_eq_true', decide_eq_false_iff_not, beq_self_eq_true, List.take_length, Nat.le_refl, Int.le_refl, Blk.mk.injEq, Try.ntmps55, Try.results55, hx.1, hm, List.take_of_length_le, b1, b2, b3, hm2, splice_all]
    exact ⟨by kernel_rfl, rfl⟩
  | succ c ih =>
    intro hc
    have ih := ih (by omega)
    obtain ⟨o1, o2⟩ := climb_ok x bits hx c
    have hm2 : min 32 32 = 32 := rfl
    have hne : ¬ bits.take (c + 1) = [] := fun e => by
      have h2 := congrArg List.length e
      rw [List.length_take, List.length_nil] at h2
      omega
    have hl : (bits.take (c + 1)).length = c + 1 := by rw [List.length_take]; omega
    have htt : (bits.take (c + 1)).take c = bits.take c := by rw [List.take_take]; congr 1; omega
    have hgd : (bits.take (c + 1)).getD c 0 = bits.getD c 0 := by
      rw [List.getD_eq_getElem?_getD, List.getD_eq_getElem?_getD, List.getElem?_take_of_lt (by omega)]
    have e1 : w64 (((c + 1 : Nat) : Int) - 1) = (c : Int) := by rw [w64_of (by omega) (by omega)]; omega
    have g1 : (c : Int) ≤ ((c + 1 : Nat) : Int) := by omega
    have g2 : (c : Int) < ((c + 1 : Nat) : Int) := by omega
    have sd1 := dbl_spec _ o1
    have sd2 := dbl_spec _ o2
    have sa := add_spec _ _ x o1 o2 hx
    have k1 := ok_dbl o1
    have k2 := ok_dbl o2
    have k3 := ok_add o1 o2 hx
    have hcl : ∀ p : Pt, okP p → (cellsP p).length = 32 := fun p h => by unfold cellsP; rw [List.length_map]; exact cellsP_len p h
    have hlow : ∀ p : Pt, lows 0 (cellsP p) := fun p => by unfold cellsP; simp [lows_i64, lows_append]
    rw [climbI]
    generalize bits.take (c + 1) = B at *
    generalize (climbI x bits c).1 = p at *
    generalize (climbI x bits c).2 = q at *
    have lp := hcl p o1
    have lq := hcl q o2
    have ld1 := hcl _ k1
    have ld2 := hcl _ k2
    have la := hcl _ k3
    by_cases hb0 : bits.getD c 0 = 48#8
    · rw [if_pos hb0]
      refine pure_of_vc (by kernel_rfl) (fn := Try.f55) (by kernel_rfl) Try.func55 rfl (by show 2 ≤ 44; decide) (by simp [lows_i64, hlow, lows, V.low]) (by simp [lows_i64, hlow, lows, V.low, lows_ite, low_ite]) (go_start ?_)
      simp only [go_sem, ↓reduceIte, Nat.reduceEqDiff, Nat.reduceLT, Nat.reduceLeDiff, Nat.reduceAdd, Nat.reduceSub, Nat.reduceMul, Nat.reduceMod, Nat.reduceDiv, Int.reduceLE, Int.reduceLT, Int.reduceToNat, Int.reduceAdd, Int.reduceSub, Int.reduceMul, Int.reduceEq, Int.reduceNeg, BitVec.reduceOfInt, BitVec.reduceToNat, BitVec.reduceEq, BitVec.reduceNe, BitVec.reduceLT, reduceCtorEq, and_true, true_and, and_self, Nat.succ_ne_self, decide_true, decide_false, Bool.false_eq_true, Nat.one_ne_zero, Nat.zero_ne_one, Nat.not_lt_zero, Nat.zero_lt_succ, ge_iff_le, gt_iff_lt, decide_eq_true_eq, Option.some.injEq, List.getElem?_cons_zero, List.getElem?_cons_succ, List.length_cons, List.length_nil, Int.natCast_zero, List.map_cons, List.map_nil, List.append_nil, List.nil_append, List.cons_append, vconv, Option.map_some, Option.map_none, List.getD_cons_zero, List.getD_cons_succ, List.not_mem_nil, false_implies, implies_true, List.getElem?_toArray, Option.bind_some, List.set_cons_zero, List.set_cons_succ, List.take_succ_cons, List.take_zero, List.drop_succ_cons, List.drop_zero, List.drop_nil, List.take_nil, List.forall_mem_cons, List.forall_mem_nil, V.u8.injEq, exists_eq', Nat.zero_mul, Nat.one_mul, Nat.zero_add, Nat.mul_one, Nat.add_zero, Int.toNat_natCast, Int.cast_ofNat_Int, ne_eq, not_true_eq_false, not_false_eq_true, List.length_set, List.length_append, List.length_take, List.length_drop, List.length_replicate, Option.isSome_none, Option.isSome_some, w64_of, Bool.not_true, Bool.not_false, Bool.true_and, Bool.false_and, Bool.and_true, Bool.and_false, Bool.true_or, Bool.false_or, Bool.or_true, Bool.or_false, Bool.not_eq_true', decide_eq_false_iff_not, beq_self_eq_true, List.take_length, Nat.le_refl, Int.le_refl, Blk.mk.injEq, Try.ntmps55, Try.results55, hne, hl, hx.1, hm, e1, g1, htt, List.take_of_length_le]
      refine ⟨by omega, ?_⟩
      refine goCallD_pure0 (ih) ?_
      simp only [go_sem, ↓reduceIte, Nat.reduceEqDiff, Nat.reduceLT, Nat.reduceLeDiff, Nat.reduceAdd, Nat.reduceSub, Nat.reduceMul, Nat.reduceMod, Nat.reduceDiv, Int.reduceLE, Int.reduceLT, Int.reduceToNat, Int.reduceAdd, Int.reduceSub, Int.reduceMul, Int.reduceEq, Int.reduceNeg, BitVec.reduceOfInt, BitVec.reduceToNat, BitVec.reduceEq, BitVec.reduceNe, BitVec.reduceLT, reduceCtorEq, and_true, true_and, and_self, Nat.succ_ne_self, decide_true, decide_false, Bool.false_eq_true, Nat.one_ne_zero, Nat.zero_ne_one, Nat.not_lt_zero, Nat.zero_lt_succ, ge_iff_le, gt_iff_lt, decide_eq_true_eq, Option.some.injEq, List.getElem?_cons_zero, List.getElem?_cons_succ, List.length_cons, List.length_nil, Int.natCast_zero, List.map_cons, List.map_nil, List.append_nil, List.nil_append, List.cons_append, vconv, Option.map_some, Option.map_none, List.getD_cons_zero, List.getD_cons_succ, List.not_mem_nil, false_implies, implies_true, List.getElem?_toArray, Option.bind_some, List.set_cons_zero, List.set_cons_succ, List.take_succ_cons, List.take_zero, List.drop_succ_cons, List.drop_zero, List.drop_nil, List.take_nil, List.forall_mem_cons, List.forall_mem_nil, V.u8.injEq, exists_eq', Nat.zero_mul, Nat.one_mul, Nat.zero_add, Nat.mul_one, Nat.add_zero, Int.toNat_natCast, Int.cast_ofNat_Int, ne_eq, not_true_eq_false, not_false_eq_true, List.length_set, List.length_append, List.length_take, List.length_drop, List.length_replicate, Option.isSome_none, Option.isSome_some, w64_of, Bool.not_true, Bool.not_false, Bool.true_and, Bool.false_and, Bool.and_true, Bool.and_false, Bool.true_or, Bool.false_or, Bool.or_true, Bool.or_false, Bool.not_eq_true', decide_eq_false_iff_not, beq_self_eq_true, List.take_length, Nat.le_refl, Int.le_refl, Blk.mk.injEq, hl, hx.1, hm, hm2, lp, lq, ld1, ld2, la, e1, g2, hgd, hb0, splice_all, List.take_of_length_le]
      refine ⟨cellsP_one _, cellsP_one _, by kernel_rfl, by omega, ?_⟩
      refine goCallD_pure0 (sd1) ?_
      simp only [go_sem, ↓reduceIte, Nat.reduceEqDiff, Nat.reduceLT, Nat.reduceLeDiff, Nat.reduceAdd, Nat.reduceSub, Nat.reduceMul, Nat.reduceMod, Nat.reduceDiv, Int.reduceLE, Int.reduceLT, Int.reduceToNat, Int.reduceAdd, Int.reduceSub, Int.reduceMul, Int.reduceEq, Int.reduceNeg, BitVec.reduceOfInt, BitVec.reduceToNat, BitVec.reduceEq, BitVec.reduceNe, BitVec.reduceLT, reduceCtorEq, and_true, true_and, and_self, Nat.succ_ne_self, decide_true, decide_false, Bool.false_eq_true, Nat.one_ne_zero, Nat.zero_ne_one, Nat.not_lt_zero, Nat.zero_lt_succ, ge_iff_le, gt_iff_lt, decide_eq_true_eq, Option.some.injEq, List.getElem?_cons_zero, List.getElem?_cons_succ, List.length_cons, List.length_nil, Int.natCast_zero, List.map_cons, List.map_nil, List.append_nil, List.nil_append, List.cons_append, vconv, Option.map_some, Option.map_none, List.getD_cons_zero, List.getD_cons_succ, List.not_mem_nil, false_implies, implies_true, List.getElem?_toArray, Option.bind_some, List.set_cons_zero, List.set_cons_succ, List.take_succ_cons, List.take_zero, List.drop_succ_cons, List.drop_zero, List.drop_nil, List.take_nil, List.forall_mem_cons, List.forall_mem_nil, V.u8.injEq, exists_eq', Nat.zero_mul, Nat.one_mul, Nat.zero_add, Nat.mul_one, Nat.add_zero, Int.toNat_natCast, Int.cast_ofNat_Int, ne_eq, not_true_eq_false, not_false_eq_true, List.length_set, List.length_append, List.length_take, List.length_drop, List.length_replicate, Option.isSome_none, Option.isSome_some, w64_of, Bool.not_true, Bool.not_false, Bool.true_and, Bool.false_and, Bool.and_true, Bool.and_false, Bool.true_or, Bool.false_or, Bool.or_true, Bool.or_false, Bool.not_eq_true', decide_eq_false_iff_not, beq_self_eq_true, List.take_length, Nat.le_refl, Int.le_refl, Blk.mk.injEq, hl, hx.1, hm, hm2, lp, lq, ld1, ld2, la, e1, g2, hgd, hb0, splice_all, List.take_of_length_le]
      refine goCallD_pure0 (sa) ?_
      simp only [go_sem, ↓reduceIte, Nat.reduceEqDiff, Nat.reduceLT, Nat.reduceLeDiff, Nat.reduceAdd, Nat.reduceSub, Nat.reduceMul, Nat.reduceMod, Nat.reduceDiv, Int.reduceLE, Int.reduceLT, Int.reduceToNat, Int.reduceAdd, Int.reduceSub, Int.reduceMul, Int.reduceEq, Int.reduceNeg, BitVec.reduceOfInt, BitVec.reduceToNat, BitVec.reduceEq, BitVec.reduceNe, BitVec.reduceLT, reduceCtorEq, and_true, true_and, and_self, Nat.succ_ne_self, decide_true, decide_false, Bool.false_eq_true, Nat.one_ne_zero, Nat.zero_ne_one, Nat.not_lt_zero, Nat.zero_lt_succ, ge_iff_le, gt_iff_lt, decide_eq_true_eq, Option.some.injEq, List.getElem?_cons_zero, List.getElem?_cons_succ, List.length_cons, List.length_nil, Int.natCast_zero, List.map_cons, List.map_nil, List.append_nil, List.nil_append, List.cons_append, vconv, Option.map_some, Option.map_none, List.getD_cons_zero, List.getD_cons_succ, List.not_mem_nil, false_implies, implies_true, List.getElem?_toArray, Option.bind_some, List.set_cons_zero, List.set_cons_succ, List.take_succ_cons, List.take_zero, List.drop_succ_cons, List.drop_zero, List.drop_nil, List.take_nil, List.forall_mem_cons, List.forall_mem_nil, V.u8.injEq, exists_eq', Nat.zero_mul, Nat.one_mul, Nat.zero_add, Nat.mul_one, Nat.add_zero, Int.toNat_natCast, Int.cast_ofNat_Int, ne_eq, not_true_eq_false, not_false_eq_true, List.length_set, List.length_append, List.length_take, List.length_drop, List.length_replicate, Option.isSome_none, Option.isSome_some, w64_of, Bool.not_true, Bool.not_false, Bool.true_and, Bool.false_and, Bool.and_true, Bool.and_false, Bool.true_or, Bool.false_or, Bool.or_true, Bool.or_false, Bool.not_eq_true', decide_eq_false_iff_not, beq_self_eq_true, List.take_length, Nat.le_refl, Int.le_refl, Blk.mk.injEq, hl, hx.1, hm, hm2, lp, lq, ld1, ld2, la, e1, g2, hgd, hb0, splice_all, List.take_of_length_le]
      exact ⟨cellsP_one _, cellsP_one _, by kernel_rfl⟩
    · rw [if_neg hb0]
      refine pure_of_vc (by kernel_rfl) (fn := Try.f55) (by kernel_rfl) Try.func55 rfl (by show 2 ≤ 44; decide) (by simp [lows_i64, hlow, lows, V.low]) (by simp [lows_i64, hlow, lows, V.low, lows_ite, low_ite]) (go_start ?_)
      simp only [go_sem, ↓reduceIte, Nat.reduceEqDiff, Nat.reduceLT, Nat.reduceLeDiff, Nat.reduceAdd, Nat.reduceSub, Nat.reduceMul, Nat.reduceMod, Nat.reduceDiv, Int.reduceLE, Int.reduceLT, Int.reduceToNat, Int.reduceAdd, Int.reduceSub, Int.reduceMul, Int.reduceEq, Int.reduceNeg, BitVec.reduceOfInt, BitVec.reduceToNat, BitVec.reduceEq, BitVec.reduceNe, BitVec.reduceLT, reduceCtorEq, and_true, true_and, and_self, Nat.succ_ne_self, decide_true, decide_false, Bool.false_eq_true, Nat.one_ne_zero, Nat.zero_ne_one, Nat.not_lt_zero, Nat.zero_lt_succ, ge_iff_le, gt_iff_lt, decide_eq_true_eq, Option.some.injEq, List.getElem?_cons_zero, List.getElem?_cons_succ, List.length_cons, List.length_nil, Int.natCast_zero, List.map_cons, List.map_nil, List.append_nil, List.nil_append, List.cons_append, vconv, Option.map_some, Option.map_none, List.getD_cons_zero, List.getD_cons_succ, List.not_mem_nil, false_implies, implies_true, List.getElem?_toArray, Option.bind_some, List.set_cons_zero, List.set_cons_succ, List.take_succ_cons, List.take_zero, List.drop_succ_cons, List.drop_zero, List.drop_nil, List.take_nil, List.forall_mem_cons, List.forall_mem_nil, V.u8.injEq, exists_eq', Nat.zero_mul, Nat.one_mul, Nat.zero_add, Nat.mul_one, Nat.add_zero, Int.toNat_natCast, Int.cast_ofNat_Int, ne_eq, not_true_eq_false, not_false_eq_true, List.length_set, List.length_append, List.length_take, List.length_drop, List.length_replicate, Option.isSome_none, Option.isSome_some, w64_of, Bool.not_true, Bool.not_false, Bool.true_and, Bool.false_and, Bool.and_true, Bool.and_false, Bool.true_or, Bool.false_or, Bool.or_true, Bool.or_false, Bool.not_eq_true', decide_eq_false_iff_not, beq_self_eq_true, List.take_length, Nat.le_refl, Int.le_refl, Blk.mk.injEq, Try.ntmps55, Try.results55, hne, hl, hx.1, hm, e1, g1, htt, List.take_of_length_le]
      refine ⟨by omega, ?_⟩
      refine goCallD_pure0 (ih) ?_
      simp only [go_sem, ↓reduceIte, Nat.reduceEqDiff, Nat.reduceLT, Nat.reduceLeDiff, Nat.reduceAdd, Nat.reduceSub, Nat.reduceMul, Nat.reduceMod, Nat.reduceDiv, Int.reduceLE, Int.reduceLT, Int.reduceToNat, Int.reduceAdd, Int.reduceSub, Int.reduceMul, Int.reduceEq, Int.reduceNeg, BitVec.reduceOfInt, BitVec.reduceToNat, BitVec.reduceEq, BitVec.reduceNe, BitVec.reduceLT, reduceCtorEq, and_true, true_and, and_self, Nat.succ_ne_self, decide_true, decide_false, Bool.false_eq_true, Nat.one_ne_zero, Nat.zero_ne_one, Nat.not_lt_zero, Nat.zero_lt_succ, ge_iff_le, gt_iff_lt, decide_eq_true_eq, Option.some.injEq, List.getElem?_cons_zero, List.getElem?_cons_succ, List.length_cons, List.length_nil, Int.natCast_zero, List.map_cons, List.map_nil, List.append_nil, List.nil_append, List.cons_append, vconv, Option.map_some, Option.map_none, List.getD_cons_zero, List.getD_cons_succ, List.not_mem_nil, false_implies, implies_true, List.getElem?_toArray, Option.bind_some, List.set_cons_zero, List.set_cons_succ, List.take_succ_cons, List.take_zero, List.drop_succ_cons, List.drop_zero, List.drop_nil, List.take_nil, List.forall_mem_cons, List.forall_mem_nil, V.u8.injEq, exists_eq', Nat.zero_mul, Nat.one_mul, Nat.zero_add, Nat.mul_one, Nat.add_zero, Int.toNat_natCast, Int.cast_ofNat_Int, ne_eq, not_true_eq_false, not_false_eq_true, List.length_set, List.length_append, List.length_take, List.length_drop, List.length_replicate, Option.isSome_none, Option.isSome_some, w64_of, Bool.not_true, Bool.not_false, Bool.true_and, Bool.false_and, Bool.and_true, Bool.and_false, Bool.true_or, Bool.false_or, Bool.or_true, Bool.or_false, Bool.not_eq_true', decide_eq_false_iff_not, beq_self_eq_true, List.take_length, Nat.le_refl, Int.le_refl, Blk.mk.injEq, hl, hx.1, hm, hm2, lp, lq, ld1, ld2, la, e1, g2, hgd, hb0, splice_all, List.take_of_length_le]
      refine ⟨cellsP_one _, cellsP_one _, by kernel_rfl, by omega, ?_⟩
      refine goCallD_pure0 (sa) ?_
      simp only [go_sem, ↓reduceIte, Nat.reduceEqDiff, Nat.reduceLT, Nat.reduceLeDiff, Nat.reduceAdd, Nat.reduceSub, Nat.reduceMul, Nat.reduceMod, Nat.reduceDiv, Int.reduceLE, Int.reduceLT, Int.reduceToNat, Int.reduceAdd, Int.reduceSub, Int.reduceMul, Int.reduceEq, Int.reduceNeg, BitVec.reduceOfInt, BitVec.reduceToNat, BitVec.reduceEq, BitVec.reduceNe, BitVec.reduceLT, reduceCtorEq, and_true, true_and, and_self, Nat.succ_ne_self, decide_true, decide_false, Bool.false_eq_true, Nat.one_ne_zero, Nat.zero_ne_one, Nat.not_lt_zero, Nat.zero_lt_succ, ge_iff_le, gt_iff_lt, decide_eq_true_eq, Option.some.injEq, List.getElem?_cons_zero, List.getElem?_cons_succ, List.length_cons, List.length_nil, Int.natCast_zero, List.map_cons, List.map_nil, List.append_nil, List.nil_append, List.cons_append, vconv, Option.map_some, Option.map_none, List.getD_cons_zero, List.getD_cons_succ, List.not_mem_nil, false_implies, implies_true, List.getElem?_toArray, Option.bind_some, List.set_cons_zero, List.set_cons_succ, List.take_succ_cons, List.take_zero, List.drop_succ_cons, List.drop_zero, List.drop_nil, List.take_nil, List.forall_mem_cons, List.forall_mem_nil, V.u8.injEq, exists_eq', Nat.zero_mul, Nat.one_mul, Nat.zero_add, Nat.mul_one, Nat.add_zero, Int.toNat_natCast, Int.cast_ofNat_Int, ne_eq, not_true_eq_false, not_false_eq_true, List.length_set, List.length_append, List.length_take, List.length_drop, List.length_replicate, Option.isSome_none, Option.isSome_some, w64_of, Bool.not_true, Bool.not_false, Bool.true_and, Bool.false_and, Bool.and_true, Bool.and_false, Bool.true_or, Bool.false_or, Bool.or_true, Bool.or_false, Bool.not_eq_true', decide_eq_false_iff_not, beq_self_eq_true, List.take_length, Nat.le_refl, Int.le_refl, Blk.mk.injEq, hl, hx.1, hm, hm2, lp, lq, ld1, ld2, la, e1, g2, hgd, hb0, splice_all, List.take_of_length_le]
      refine goCallD_pure0 (sd2) ?_
      simp only [go_sem, ↓reduceIte, Nat.reduceEqDiff, Nat.reduceLT, Nat.reduceLeDiff, Nat.reduceAdd, Nat.reduceSub, Nat.reduceMul, Nat.reduceMod, Nat.reduceDiv, Int.reduceLE, Int.reduceLT, Int.reduceToNat, Int.reduceAdd, Int.reduceSub, Int.reduceMul, Int.reduceEq, Int.reduceNeg, BitVec.reduceOfInt, BitVec.reduceToNat, BitVec.reduceEq, BitVec.reduceNe, BitVec.reduceLT, reduceCtorEq, and_true, true_and, and_self, Nat.succ_ne_self, decide_true, decide_false, Bool.false_eq_true, Nat.one_ne_zero, Nat.zero_ne_one, Nat.not_lt_zero, Nat.zero_lt_succ, ge_iff_le, gt_iff_lt, decide_eq_true_eq, Option.some.injEq, List.getElem?_cons_zero, List.getElem?_cons_succ, List.length_cons, List.length_nil, Int.natCast_zero, List.map_cons, List.map_nil, List.append_nil, List.nil_append, List.cons_append, vconv, Option.map_some, Option.map_none, List.getD_cons_zero, List.getD_cons_succ, List.not_mem_nil, false_implies, implies_true, List.getElem?_toArray, Option.bind_some, List.set_cons_zero, List.set_cons_succ, List.take_succ_cons, List.take_zero, List.drop_succ_cons, List.drop_zero, List.drop_nil, List.take_nil, List.forall_mem_cons, List.forall_mem_nil, V.u8.injEq, exists_eq', Nat.zero_mul, Nat.one_mul, Nat.zero_add, Nat.mul_one, Nat.add_zero, Int.toNat_natCast, Int.cast_ofNat_Int, ne_eq, not_true_eq_false, not_false_eq_true, List.length_set, List.length_append, List.length_take, List.length_drop, List.length_replicate, Option.isSome_none, Option.isSome_some, w64_of, Bool.not_true, Bool.not_false, Bool.true_and, Bool.false_and, Bool.and_true, Bool.and_false, Bool.true_or, Bool.false_or, Bool.or_true, Bool.or_false, Bool.not_eq_true', decide_eq_false_iff_not, beq_self_eq_true, List.take_length, Nat.le_refl, Int.le_refl, Blk.mk.injEq, hl, hx.1, hm, hm2, lp, lq, ld1, ld2, la, e1, g2, hgd, hb0, splice_all, List.take_of_length_le]
      exact ⟨cellsP_one _, cellsP_one _, by kernel_rfl⟩
end Go.Vm
end
section
namespace Go.Vm
open Go.Proofs
set_option maxRecDepth 20000
theorem same_times_comm {r s : List (BitVec 64)} {m n : List Int} (h : Same r m) (k : Same s n) : Same (timesE r s) (timesI n m) := by
  obtain ⟨h1, h2⟩ := timesE_val r s h.1 k.1
  obtain ⟨h3, h4⟩ := timesI_val n m k.2.1 h.2.1
  refine ⟨h1, h3, ?_⟩
  rw [h4, of_nat_mod h2, Int.natCast_mul, Int.mul_comm, Int.mul_emod, h.2.2, k.2.2, ← Int.mul_emod]
theorem same_plus_comm {r s : List (BitVec 64)} {m n : List Int} (h : Same r m) (k : Same s n) : Same (plusE r s) (plusI n m 1) := by
  obtain ⟨h1, h2⟩ := plusE_val r s h.1 k.1
  obtain ⟨h3, h4⟩ := plusI_val n m 1 k.2.1 h.2.1 (by decide)
  refine ⟨h1, h3, ?_⟩
  rw [h4, of_nat_mod h2, Int.natCast_add, Int.add_comm, Int.add_emod, h.2.2, k.2.2, ← Int.add_emod, Int.one_mul]
/-- The same number, but for the sign. -/
def Opp (r : List (BitVec 64)) (m : List Int) : Prop := sm r ∧ okI m ∧ ((valE r : Nat) : Int) % Pi5 = (-valI m) % Pi5
theorem neg_congr {a b p : Int} (h : a % p = b % p) : (-a) % p = (-b) % p := by rw [← Int.zero_sub a, ← Int.zero_sub b, Int.sub_emod, h, ← Int.sub_emod]
theorem sub_congr {a b c d p : Int} (h : a % p = b % p) (k : c % p = d % p) : (a - c) % p = (b - d) % p := by rw [Int.sub_emod, h, k, ← Int.sub_emod]
theorem opp_minus {r s : List (BitVec 64)} {m n : List Int} (h : Same r m) (k : Same s n) : Opp (minusE r s) (plusI n m (-1)) := by
  obtain ⟨h1, h2⟩ := minusE_val r s h.1 k.1
  obtain ⟨h3, h4⟩ := plusI_val n m (-1) k.2.1 h.2.1 (by decide)
  refine ⟨h1, h3, ?_⟩
  have e1 := sub_congr h.2.2 k.2.2
  have e2 := neg_congr h4
  have e3 : -(valI n + -1 * valI m) = valI m - valI n := by omega
  rw [e3] at e2
  exact (h2.trans e1).trans e2.symm
theorem opp_square {r : List (BitVec 64)} {m : List Int} (h : Opp r m) : Same (timesE r r) (timesI m m) := by
  obtain ⟨h1, h2⟩ := timesE_val r r h.1 h.1
  obtain ⟨h3, h4⟩ := timesI_val m m h.2.1 h.2.1
  refine ⟨h1, h3, ?_⟩
  rw [h4, of_nat_mod h2, Int.natCast_mul, Int.mul_emod, h.2.2, ← Int.mul_emod, Int.neg_mul_neg]
def a24 : List (BitVec 64) := [121665#64, 0#64, 0#64, 0#64, 0#64]
theorem sm_a24 : sm a24 := ⟨rfl, fun x hx => by
  simp only [a24, List.mem_cons, List.not_mem_nil, or_false, or_self] at hx
  rcases hx with rfl | rfl
  · exact Nat.lt_of_le_of_lt (Nat.le_refl 121665) (by omega)
  · exact Nat.lt_of_le_of_lt (Nat.le_refl 0) (by omega)⟩
theorem same_24 {r s : List (BitVec 64)} {m n : List Int} (h : Same r m) (k : Same s n) : Same (plusE r (timesE a24 s)) (plusI m n 121665) := by
  obtain ⟨t1, t2⟩ := timesE_val a24 s sm_a24 k.1
  obtain ⟨h1, h2⟩ := plusE_val r (timesE a24 s) h.1 t1
  obtain ⟨h3, h4⟩ := plusI_val m n 121665 h.2.1 k.2.1 (by decide)
  refine ⟨h1, h3, ?_⟩
  have e : valE a24 = 121665 := rfl
  rw [e] at t2
  rw [h4, of_nat_mod h2, Int.natCast_add, Int.add_emod, h.2.2, of_nat_mod t2, Int.natCast_mul, Int.mul_emod ((121665 : Nat) : Int), k.2.2, ← Int.mul_emod, ← Int.add_emod]
  rfl
def kA (x z : List (BitVec 64)) := plusE x z
def kB (x z : List (BitVec 64)) := minusE x z
def kAA (x z : List (BitVec 64)) := timesE (kA x z) (kA x z)
def kBB (x z : List (BitVec 64)) := timesE (kB x z) (kB x z)
def kE (x z : List (BitVec 64)) := minusE (kAA x z) (kBB x z)
def kT (x z : List (BitVec 64)) := timesE a24 (kE x z)
def kU (x z : List (BitVec 64)) := plusE (kAA x z) (kT x z)
def kX2 (x z : List (BitVec 64)) := timesE (kAA x z) (kBB x z)
def kZ2 (x z : List (BitVec 64)) := timesE (kE x z) (kU x z)
def kDA (x2 z2 x3 z3 : List (BitVec 64)) := timesE (kB x3 z3) (kA x2 z2)
def kCB (x2 z2 x3 z3 : List (BitVec 64)) := timesE (kA x3 z3) (kB x2 z2)
def kX (x2 z2 x3 z3 : List (BitVec 64)) := plusE (kDA x2 z2 x3 z3) (kCB x2 z2 x3 z3)
def kXX (x2 z2 x3 z3 : List (BitVec 64)) := timesE (kX x2 z2 x3 z3) (kX x2 z2 x3 z3)
def kZ (x2 z2 x3 z3 : List (BitVec 64)) := minusE (kDA x2 z2 x3 z3) (kCB x2 z2 x3 z3)
def kZZ (x2 z2 x3 z3 : List (BitVec 64)) := timesE (kZ x2 z2 x3 z3) (kZ x2 z2 x3 z3)
def kZ3 (x x2 z2 x3 z3 : List (BitVec 64)) := timesE x (kZZ x2 z2 x3 z3)
def SameP (x z : List (BitVec 64)) (p : Pt) : Prop := Same x p.1 ∧ Same z p.2
theorem same_S {x z : List (BitVec 64)} {p : Pt} (h : SameP x z p) : Same (kA x z) (pS p) := same_plus h.1 h.2
theorem same_D {x z : List (BitVec 64)} {p : Pt} (h : SameP x z p) : Same (kB x z) (pD p) := same_minus h.1 h.2
theorem same_AA {x z : List (BitVec 64)} {p : Pt} (h : SameP x z p) : Same (kAA x z) (dA p) := same_times (same_S h) (same_S h)
theorem same_BB {x z : List (BitVec 64)} {p : Pt} (h : SameP x z p) : Same (kBB x z) (dB p) := same_times (same_D h) (same_D h)
theorem same_E {x z : List (BitVec 64)} {p : Pt} (h : SameP x z p) : Same (kE x z) (dE p) := same_minus (same_AA h) (same_BB h)
theorem same_U {x z : List (BitVec 64)} {p : Pt} (h : SameP x z p) : Same (kU x z) (dF p) := same_24 (same_AA h) (same_E h)
theorem same_dbl1 {x z : List (BitVec 64)} {p : Pt} (h : SameP x z p) : Same (kX2 x z) (timesI (dA p) (dB p)) := same_times (same_AA h) (same_BB h)
theorem same_dbl2 {x z : List (BitVec 64)} {p : Pt} (h : SameP x z p) : Same (kZ2 x z) (timesI (dE p) (dF p)) := same_times (same_E h) (same_U h)
theorem same_dbl {x z : List (BitVec 64)} {p : Pt} (h : SameP x z p) : SameP (kX2 x z) (kZ2 x z) (dblI p) := by
  dsimp only [SameP, dblI]
  exact ⟨same_dbl1 h, same_dbl2 h⟩
section
variable {x2 z2 x3 z3 x : List (BitVec 64)} {p q : Pt} {m : List Int}
theorem same_DA1 (h : SameP x2 z2 p) (k : SameP x3 z3 q) : Same (kDA x2 z2 x3 z3) (addB p q) := same_times_comm (same_D k) (same_S h)
theorem same_CB1 (h : SameP x2 z2 p) (k : SameP x3 z3 q) : Same (kCB x2 z2 x3 z3) (addA p q) := same_times_comm (same_S k) (same_D h)
theorem same_DA2 (h : SameP x2 z2 p) (k : SameP x3 z3 q) : Same (kDA x2 z2 x3 z3) (addA q p) := same_times (same_D k) (same_S h)
theorem same_CB2 (h : SameP x2 z2 p) (k : SameP x3 z3 q) : Same (kCB x2 z2 x3 z3) (addB q p) := same_times (same_S k) (same_D h)
theorem same_X1 (h : SameP x2 z2 p) (k : SameP x3 z3 q) : Same (kX x2 z2 x3 z3) (aC p q) := same_plus_comm (same_DA1 h k) (same_CB1 h k)
theorem same_X2 (h : SameP x2 z2 p) (k : SameP x3 z3 q) : Same (kX x2 z2 x3 z3) (aC q p) := same_plus (same_DA2 h k) (same_CB2 h k)
theorem opp_Z1 (h : SameP x2 z2 p) (k : SameP x3 z3 q) : Opp (kZ x2 z2 x3 z3) (aD p q) := opp_minus (same_DA1 h k) (same_CB1 h k)
theorem same_Z2 (h : SameP x2 z2 p) (k : SameP x3 z3 q) : Same (kZ x2 z2 x3 z3) (aD q p) := same_minus (same_DA2 h k) (same_CB2 h k)
theorem same_add1 (h : SameP x2 z2 p) (k : SameP x3 z3 q) (hx : Same x m) : SameP (kXX x2 z2 x3 z3) (kZ3 x x2 z2 x3 z3) (addPt p q m) := by
  have e1 : Same (kXX x2 z2 x3 z3) (timesI (aC p q) (aC p q)) := same_times (same_X1 h k) (same_X1 h k)
  have e2 : Same (kZZ x2 z2 x3 z3) (aDD p q) := opp_square (opp_Z1 h k)
  have e3 : Same (kZ3 x x2 z2 x3 z3) (timesI m (aDD p q)) := same_times hx e2
  dsimp only [SameP, addPt]
  exact ⟨e1, e3⟩
theorem same_add2 (h : SameP x2 z2 p) (k : SameP x3 z3 q) (hx : Same x m) : SameP (kXX x2 z2 x3 z3) (kZ3 x x2 z2 x3 z3) (addPt q p m) := by
  have e1 : Same (kXX x2 z2 x3 z3) (timesI (aC q p) (aC q p)) := same_times (same_X2 h k) (same_X2 h k)
  have e2 : Same (kZZ x2 z2 x3 z3) (aDD q p) := same_times (same_Z2 h k) (same_Z2 h k)
  have e3 : Same (kZ3 x x2 z2 x3 z3) (timesI m (aDD q p)) := same_times hx e2
  dsimp only [SameP, addPt]
  exact ⟨e1, e3⟩
end
structure L4 where
  x2 : List (BitVec 64)
  z2 : List (BitVec 64)
  x3 : List (BitVec 64)
  z3 : List (BitVec 64)
  sw : BitVec 8
def coreL (x x2 z2 x3 z3 : List (BitVec 64)) (bit : BitVec 8) : L4 := ⟨kX2 x2 z2, kZ2 x2 z2, kXX x2 z2 x3 z3, kZ3 x x2 z2 x3 z3, bit⟩
def stepL (x : List (BitVec 64)) (L : L4) (bit : BitVec 8) : L4 := if bit = L.sw then coreL x L.x2 L.z2 L.x3 L.z3 bit else coreL x L.x3 L.z3 L.x2 L.z2 bit
/-- The bit t of a key. -/
def bitL (Q : List (BitVec 8)) (t : Nat) : BitVec 8 := (Q.getD (t / 8) 0) >>> (t % 8) &&& 1#8
theorem bitL_two (Q : List (BitVec 8)) (t : Nat) : bitL Q t = 0#8 ∨ bitL Q t = 1#8 := by
  have h : (bitL Q t).toNat < 2 := by
    unfold bitL
    rw [BitVec.toNat_and, show (1#8).toNat = 2 ^ 1 - 1 from rfl, Nat.and_two_pow_sub_one_eq_mod]; omega
  have : (bitL Q t).toNat = 0 ∨ (bitL Q t).toNat = 1 := by omega
  rcases this with e | e
  · exact .inl (BitVec.eq_of_toNat_eq e)
  · exact .inr (BitVec.eq_of_toNat_eq e)
def ladE (x : List (BitVec 64)) (Q : List (BitVec 8)) : Nat → L4
  | 0 => ⟨oneE, List.replicate 5 0#64, x, oneE, 0#8⟩
  | c + 1 => stepL x (ladE x Q c) (bitL Q (254 - c))
/-- The bits as signs, the highest first. -/
def signL (Q : List (BitVec 8)) (t : Nat) : BitVec 8 := if bitL Q t = 0#8 then 48#8 else 49#8
def signs (Q : List (BitVec 8)) : Nat → List (BitVec 8)
  | 0 => []
  | c + 1 => signs Q c ++ [signL Q (254 - c)]
theorem signs_length (Q : List (BitVec 8)) (c : Nat) : (signs Q c).length = c := by
  induction c with
  | zero => rfl
  | succ c ih => rw [signs, List.length_append, ih]; rfl
theorem signs_getD (Q : List (BitVec 8)) (n : Nat) : ∀ c, c < n → (signs Q n).getD c 0 = signL Q (254 - c) := by
  induction n with
  | zero => intro c h; omega
  | succ n ih =>
    intro c h
    have hl := signs_length Q n
    rw [signs]
    by_cases h0 : c < n
    · rw [List.getD_eq_getElem?_getD, List.getElem?_append_left (by omega), ← List.getD_eq_getElem?_getD, ih c h0]
    · obtain rfl : c = n := by omega
      rw [List.getD_eq_getElem?_getD, List.getElem?_append_right (by omega), hl, Nat.sub_self]; rfl
def RL (L : L4) (pq : Pt × Pt) : Prop := (L.sw = 0#8 ∧ SameP L.x2 L.z2 pq.1 ∧ SameP L.x3 L.z3 pq.2) ∨ (L.sw = 1#8 ∧ SameP L.x3 L.z3 pq.1 ∧ SameP L.x2 L.z2 pq.2)
theorem RL_core0 {x a b c d : List (BitVec 64)} {p q : Pt} (h : SameP (kX2 a b) (kZ2 a b) p) (k : SameP (kXX a b c d) (kZ3 x a b c d) q) : RL (coreL x a b c d 0#8) (p, q) := by
  dsimp only [RL, coreL]
  exact .inl ⟨Eq.refl (0#8 : BitVec 8), h, k⟩
theorem RL_core1 {x a b c d : List (BitVec 64)} {p q : Pt} (h : SameP (kX2 a b) (kZ2 a b) q) (k : SameP (kXX a b c d) (kZ3 x a b c d) p) : RL (coreL x a b c d 1#8) (p, q) := by
  dsimp only [RL, coreL]
  exact .inr ⟨Eq.refl (1#8 : BitVec 8), k, h⟩
theorem same_one : Same oneE oneI := ⟨sm_one, ok_one, by decide⟩
theorem same_zero : Same (List.replicate 5 0#64) (List.replicate 16 0) := ⟨⟨rfl, fun x hx => by rw [List.eq_of_mem_replicate hx]; exact Nat.lt_of_le_of_lt (Nat.le_refl 0) (by omega)⟩, ok_zero, by decide⟩
theorem lad_same (x : List (BitVec 64)) (m : List Int) (Q : List (BitVec 8)) (hx : Same x m) (n : Nat) : ∀ c, c ≤ n → RL (ladE x Q c) (climbI m (signs Q n) c) := by
  intro c
  induction c with
  | zero => intro _; exact .inl ⟨rfl, ⟨same_one, same_zero⟩, ⟨hx, same_one⟩⟩
  | succ c ih =>
    intro hc
    have ih := ih (by omega)
    have hg := signs_getD Q n c (by omega)
    have hbt := bitL_two Q (254 - c)
    rw [ladE, climbI, hg]
    generalize ladE x Q c = L at *
    generalize (climbI m (signs Q n) c) = pq at *
    obtain ⟨p, q⟩ := pq
    dsimp only at ih ⊢
    have hs : signL Q (254 - c) = if bitL Q (254 - c) = 0#8 then 48#8 else 49#8 := rfl
    rw [hs]
    clear hs hg
    have st1 : ∀ b, b = L.sw → stepL x L b = coreL x L.x2 L.z2 L.x3 L.z3 b := fun b hb => by unfold stepL; rw [if_pos hb]
    have st2 : ∀ b, ¬ b = L.sw → stepL x L b = coreL x L.x3 L.z3 L.x2 L.z2 b := fun b hb => by unfold stepL; rw [if_neg hb]
    generalize bitL Q (254 - c) = bit at *
    have hb2 : bit = 0#8 ∨ bit = 1#8 := by assumption
    rcases hb2 with hb | hb
    · subst hb
      have e1 : (if (0#8 : BitVec 8) = 0#8 then (48#8 : BitVec 8) else 49#8) = 48#8 := by decide
      rw [e1, if_pos (Eq.refl (48#8 : BitVec 8))]
      rcases ih with ⟨h1, h2, h3⟩ | ⟨h1, h2, h3⟩
      · rw [st1 _ h1.symm]
        exact RL_core0 (same_dbl h2) (same_add1 h2 h3 hx)
      · rw [st2 _ (by rw [h1]; decide)]
        exact RL_core0 (same_dbl h2) (same_add1 h2 h3 hx)
    · subst hb
      have e1 : (if (1#8 : BitVec 8) = 0#8 then (48#8 : BitVec 8) else 49#8) = 49#8 := by decide
      rw [e1, if_neg (by decide : ¬ (49#8 : BitVec 8) = 48#8)]
      rcases ih with ⟨h1, h2, h3⟩ | ⟨h1, h2, h3⟩
      · rw [st2 _ (by rw [h1]; decide)]
        exact RL_core1 (same_dbl h3) (same_add2 h3 h2 hx)
      · rw [st1 _ h1.symm]
        exact RL_core1 (same_dbl h3) (same_add2 h3 h2 hx)
end Go.Vm
end
