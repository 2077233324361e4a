/- A part of the proof: laws of a small machine of values, or what one function answers, proved against the model; no conditions beyond those in each theorem. -/
import Derived.Shelf.Strings.Repeat
import Derived.Test.YtdghkibbiahbmaaBaseToAeA
import Derived.Test.YtdghkibbiahbmaaShelfJoinToAeB
set_option linter.unusedVariables false
set_option linter.unusedSimpArgs false
set_option linter.unusedSectionVars false
section
namespace Go.Vm
open Go.Proofs Go.Shelf
def shelf_lays105_ren : Go.Shelf.Ren := ⟨fun | 105 => 81 | 212 => 109 | 99 => 110 | 165 => 89 | 166 => 90 | 170 => 111 | 169 => 91 | 263 => 122 | 264 => 77 | 206 => 123 | 240 => 115 | 241 => 116 | 276 => 124 | 277 => 125 | n => n, fun | 9 => 9 | 3 => 3 | 4 => 4 | 20 => 20 | 0 => 0 | 46 => 85 | 109 => 117 | 5 => 5 | 72 => 101 | 76 => 105 | 51 => 73 | 146 => 132 | 53 => 35 | 148 => 81 | 70 => 99 | 37 => 43 | 75 => 104 | 127 => 121 | 164 => 134 | 80 => 56 | n => n, fun | n => n⟩
theorem shelf_lays105 : Go.Proofs.Lays.n105 Try.prog shelf_lays105_ren := {
  mixed := by kernel_rfl
  f99 := Try.func110.trans (congrArg some (by kernel_rfl))
  f105 := Try.func81.trans (congrArg some (by kernel_rfl))
  f165 := Try.func89.trans (congrArg some (by kernel_rfl))
  f166 := Try.func90.trans (congrArg some (by kernel_rfl))
  f169 := Try.func91.trans (congrArg some (by kernel_rfl))
  f170 := Try.func111.trans (congrArg some (by kernel_rfl))
  f206 := Try.func123.trans (congrArg some (by kernel_rfl))
  f212 := Try.func109.trans (congrArg some (by kernel_rfl))
  f240 := Try.func115.trans (congrArg some (by kernel_rfl))
  f241 := Try.func116.trans (congrArg some (by kernel_rfl))
  f263 := Try.func122.trans (congrArg some (by kernel_rfl))
  f264 := Try.func77.trans (congrArg some (by kernel_rfl))
  f276 := Try.func124.trans (congrArg some (by kernel_rfl))
  f277 := Try.func125.trans (congrArg some (by kernel_rfl))
  t0 := Try.underlying0
  a0 := Try.isAgg0
  z0 := Try.sizeOf0
  v0 := Try.zeroValue0
  t3 := Try.underlying3
  a3 := Try.isAgg3
  z3 := Try.sizeOf3
  v3 := Try.zeroValue3
  t4 := Try.underlying4
  a4 := Try.isAgg4
  z4 := Try.sizeOf4
  v4 := Try.zeroValue4
  t5 := Try.underlying5
  a5 := Try.isAgg5
  z5 := Try.sizeOf5
  v5 := Try.zeroValue5
  t9 := Try.underlying9
  a9 := Try.isAgg9
  z9 := Try.sizeOf9
  v9 := Try.zeroValue9
  t20 := Try.underlying20
  a20 := Try.isAgg20
  z20 := Try.sizeOf20
  v20 := Try.zeroValue20
  t37 := Try.underlying43
  a37 := Try.isAgg43
  z37 := Try.sizeOf43
  v37 := Try.zeroValue43
  t46 := Try.underlying85
  a46 := Try.isAgg85
  z46 := Try.sizeOf85
  v46 := Try.zeroValue85
  t51 := Try.underlying73
  a51 := Try.isAgg73
  z51 := Try.sizeOf73
  v51 := Try.zeroValue73
  t53 := Try.underlying35
  a53 := Try.isAgg35
  z53 := Try.sizeOf35
  v53 := Try.zeroValue35
  t70 := Try.underlying99
  a70 := Try.isAgg99
  z70 := Try.sizeOf99
  v70 := Try.zeroValue99
  t72 := Try.underlying101
  a72 := Try.isAgg101
  z72 := Try.sizeOf101
  v72 := Try.zeroValue101
  t75 := Try.underlying104
  a75 := Try.isAgg104
  z75 := Try.sizeOf104
  v75 := Try.zeroValue104
  t76 := Try.underlying105
  a76 := Try.isAgg105
  z76 := Try.sizeOf105
  v76 := Try.zeroValue105
  t109 := Try.underlying117
  a109 := Try.isAgg117
  z109 := Try.sizeOf117
  v109 := Try.zeroValue117
  t127 := Try.underlying121
  a127 := Try.isAgg121
  z127 := Try.sizeOf121
  v127 := Try.zeroValue121
  t146 := Try.underlying132
  a146 := Try.isAgg132
  z146 := Try.sizeOf132
  v146 := Try.zeroValue132
  t148 := Try.underlying81
  a148 := Try.isAgg81
  z148 := Try.sizeOf81
  v148 := Try.zeroValue81
  t164 := Try.underlying134
  a164 := Try.isAgg134
  z164 := Try.sizeOf134
  v164 := Try.zeroValue134 }
theorem shelf_Builder_Extra_105 : Builder.Extra Try.prog shelf_lays105_ren := {
  sizeBuilder := by kernel_rfl
  liesBuilder := by kernel_rfl
  t5 := Try.underlying5
  a5 := Try.isAgg5
  z5 := Try.sizeOf5
  v5 := Try.zeroValue5
  infoByte := by kernel_rfl
  cellsByte := by kernel_rfl
  sizeByte := by kernel_rfl
  neB5 := by decide }
open Go.RowKit Go.Lib in
theorem shelf_strings_Repeat (s : ByteArray) (c : Nat) (w : World) (hc : c ≤ 9223372036854775807) (hlen : s.size * c ≤ 140737488355328) :
    Calls Try.prog 81 #[.string s, .int .i64 c] w fun e w' => e = .returned (.string ⟨(Lib.repeatL s.data.toList c).toArray⟩) ∧ Below w.heap.size w w' := Any.strings_Repeat shelf_lays105 shelf_Builder_Extra_105 s c w hc hlen
end Go.Vm
end
section
namespace Go.Vm
open Go.Proofs
set_option maxRecDepth 20000
def fillB (s : List (BitVec 8)) : List (BitVec 8) := s ++ List.replicate ((16 - s.length % 16) % 16) 0
theorem fillB_length (s : List (BitVec 8)) : (fillB s).length = 16 * ((s.length + 15) / 16) := by unfold fillB; rw [List.length_append, List.length_replicate]; omega
theorem repeat_zero (k : Nat) : ∀ (l : List UInt8), l.map UInt8.toBitVec = [0#8] → (Lib.repeatL l k).map UInt8.toBitVec = List.replicate k 0#8 := by
  intro l h
  induction k with
  | zero => rfl
  | succ k ih => rw [Lib.repeatL, List.map_append, ih, h, List.replicate_succ]; rfl
theorem Repeat_spec (k : Nat) (hk : k ≤ 1000) : PureFn Try.prog 81 [.str [0#8], .i64 k] (.str (List.replicate k 0#8)) := by
  refine pure_of_below (by kernel_rfl) (by simp [lows, V.low]) (by simp [V.low]) fun w rargs hr => ?_
  unfold VRs at hr
  obtain ⟨r1, rs, e1, h1, hr⟩ := hr
  unfold VRs at hr
  obtain ⟨r2, rs2, e2, h2, hr⟩ := hr
  unfold VRs at hr
  unfold VR at h1 h2
  obtain ⟨b, rfl, hb⟩ := h1
  subst h2 hr e2
  have ha : rargs = #[.string b, .int .i64 k] := by cases rargs; simp_all
  subst ha
  have hsz : b.size = 1 := by
    have := congrArg List.length hb
    unfold bytesOf at this
    rw [List.length_map, Array.length_toList] at this
    exact this
  refine (shelf_strings_Repeat b k w (by omega) (by rw [hsz]; omega)).mono ?_
  rintro e w' ⟨rfl, hbl⟩
  refine ⟨_, rfl, ?_, hbl⟩
  unfold VR
  exact ⟨_, rfl, repeat_zero k _ hb⟩
theorem zeros_spec (k : Nat) (hk : k ≤ 1000) : PureFn Try.prog 48 [.i64 k] (.str (List.replicate k 0#8)) := by
  have hc := chr_spec 0
  rw [show BitVec.ofInt 8 0 = 0#8 from rfl] at hc
  refine pure_of_vc (by kernel_rfl) (fn := Try.f48) (by kernel_rfl) Try.func48 rfl (by show 1 ≤ 6; decide) (by simp [lows, V.low]) (by simp [lows, V.low, lows_ite, low_ite]) (go_start ?_)
  simp only [go_sem, ↓reduceIte, Nat.reduceEqDiff, Nat.reduceLT, Nat.reduceLeDiff, Nat.reduceAdd, Nat.reduceSub, Nat.reduceMul, Nat.reduceMod, Nat.reduceDiv, Int.reduceLE, Int.reduceLT, Int.reduceToNat, Int.reduceAdd, Int.reduceSub, Int.reduceMul, Int.reduceEq, Int.reduceNeg, BitVec.reduceOfInt, BitVec.reduceToNat, BitVec.reduceEq, BitVec.reduceNe, BitVec.reduceLT, reduceCtorEq, and_true, true_and, and_self, Nat.succ_ne_self, decide_true, decide_false, Bool.false_eq_true, Nat.one_ne_zero, Nat.zero_ne_one, Nat.not_lt_zero, Nat.zero_lt_succ, ge_iff_le, gt_iff_lt, decide_eq_true_eq, Option.some.injEq, List.getElem?_cons_zero, List.getElem?_cons_succ, List.length_cons, List.length_nil, Int.natCast_zero, List.map_cons, List.map_nil, List.append_nil, List.nil_append, List.cons_append, vconv, Option.map_some, Option.map_none, List.getD_cons_zero, List.getD_cons_succ, List.not_mem_nil, false_implies, implies_true, List.getElem?_toArray, Option.bind_some, List.set_cons_zero, List.set_cons_succ, List.take_succ_cons, List.take_zero, List.drop_succ_cons, List.drop_zero, List.drop_nil, List.take_nil, List.forall_mem_cons, List.forall_mem_nil, V.u8.injEq, exists_eq', Nat.zero_mul, Nat.one_mul, Nat.zero_add, Nat.mul_one, Nat.add_zero, Int.toNat_natCast, Int.cast_ofNat_Int, ne_eq, not_true_eq_false, not_false_eq_true, List.length_set, List.length_append, List.length_take, List.length_drop, List.length_replicate, Option.isSome_none, Option.isSome_some, w64_of, Bool.not_true, Bool.not_false, Bool.true_and, Bool.false_and, Bool.and_true, Bool.and_false, Bool.true_or, Bool.false_or, Bool.or_true, Bool.or_false, Bool.not_eq_true', decide_eq_false_iff_not, beq_self_eq_true, List.take_length, Nat.le_refl, Int.le_refl, Blk.mk.injEq, Try.ntmps48, Try.results48]
  refine goCall_pure0 (hc) ?_
  simp only [go_sem, ↓reduceIte, Nat.reduceEqDiff, Nat.reduceLT, Nat.reduceLeDiff, Nat.reduceAdd, Nat.reduceSub, Nat.reduceMul, Nat.reduceMod, Nat.reduceDiv, Int.reduceLE, Int.reduceLT, Int.reduceToNat, Int.reduceAdd, Int.reduceSub, Int.reduceMul, Int.reduceEq, Int.reduceNeg, BitVec.reduceOfInt, BitVec.reduceToNat, BitVec.reduceEq, BitVec.reduceNe, BitVec.reduceLT, reduceCtorEq, and_true, true_and, and_self, Nat.succ_ne_self, decide_true, decide_false, Bool.false_eq_true, Nat.one_ne_zero, Nat.zero_ne_one, Nat.not_lt_zero, Nat.zero_lt_succ, ge_iff_le, gt_iff_lt, decide_eq_true_eq, Option.some.injEq, List.getElem?_cons_zero, List.getElem?_cons_succ, List.length_cons, List.length_nil, Int.natCast_zero, List.map_cons, List.map_nil, List.append_nil, List.nil_append, List.cons_append, vconv, Option.map_some, Option.map_none, List.getD_cons_zero, List.getD_cons_succ, List.not_mem_nil, false_implies, implies_true, List.getElem?_toArray, Option.bind_some, List.set_cons_zero, List.set_cons_succ, List.take_succ_cons, List.take_zero, List.drop_succ_cons, List.drop_zero, List.drop_nil, List.take_nil, List.forall_mem_cons, List.forall_mem_nil, V.u8.injEq, exists_eq', Nat.zero_mul, Nat.one_mul, Nat.zero_add, Nat.mul_one, Nat.add_zero, Int.toNat_natCast, Int.cast_ofNat_Int, ne_eq, not_true_eq_false, not_false_eq_true, List.length_set, List.length_append, List.length_take, List.length_drop, List.length_replicate, Option.isSome_none, Option.isSome_some, w64_of, Bool.not_true, Bool.not_false, Bool.true_and, Bool.false_and, Bool.and_true, Bool.and_false, Bool.true_or, Bool.false_or, Bool.or_true, Bool.or_false, Bool.not_eq_true', decide_eq_false_iff_not, beq_self_eq_true, List.take_length, Nat.le_refl, Int.le_refl, Blk.mk.injEq]
  refine goCall_pure0 (Repeat_spec k hk) ?_
  simp only [go_sem, ↓reduceIte, Nat.reduceEqDiff, Nat.reduceLT, Nat.reduceLeDiff, Nat.reduceAdd, Nat.reduceSub, Nat.reduceMul, Nat.reduceMod, Nat.reduceDiv, Int.reduceLE, Int.reduceLT, Int.reduceToNat, Int.reduceAdd, Int.reduceSub, Int.reduceMul, Int.reduceEq, Int.reduceNeg, BitVec.reduceOfInt, BitVec.reduceToNat, BitVec.reduceEq, BitVec.reduceNe, BitVec.reduceLT, reduceCtorEq, and_true, true_and, and_self, Nat.succ_ne_self, decide_true, decide_false, Bool.false_eq_true, Nat.one_ne_zero, Nat.zero_ne_one, Nat.not_lt_zero, Nat.zero_lt_succ, ge_iff_le, gt_iff_lt, decide_eq_true_eq, Option.some.injEq, List.getElem?_cons_zero, List.getElem?_cons_succ, List.length_cons, List.length_nil, Int.natCast_zero, List.map_cons, List.map_nil, List.append_nil, List.nil_append, List.cons_append, vconv, Option.map_some, Option.map_none, List.getD_cons_zero, List.getD_cons_succ, List.not_mem_nil, false_implies, implies_true, List.getElem?_toArray, Option.bind_some, List.set_cons_zero, List.set_cons_succ, List.take_succ_cons, List.take_zero, List.drop_succ_cons, List.drop_zero, List.drop_nil, List.take_nil, List.forall_mem_cons, List.forall_mem_nil, V.u8.injEq, exists_eq', Nat.zero_mul, Nat.one_mul, Nat.zero_add, Nat.mul_one, Nat.add_zero, Int.toNat_natCast, Int.cast_ofNat_Int, ne_eq, not_true_eq_false, not_false_eq_true, List.length_set, List.length_append, List.length_take, List.length_drop, List.length_replicate, Option.isSome_none, Option.isSome_some, w64_of, Bool.not_true, Bool.not_false, Bool.true_and, Bool.false_and, Bool.and_true, Bool.and_false, Bool.true_or, Bool.false_or, Bool.or_true, Bool.or_false, Bool.not_eq_true', decide_eq_false_iff_not, beq_self_eq_true, List.take_length, Nat.le_refl, Int.le_refl, Blk.mk.injEq]
theorem neg_tmod (n : Nat) : (-(n : Int)).tmod 16 = -((n % 16 : Nat) : Int) := by rw [Int.neg_tmod]; rfl
theorem Rest_spec (n : Nat) (hn : n ≤ 140737488351232) : PureFn Try.prog 82 [.i64 (-(n : Int)), .i64 16] (.i64 (((16 - n % 16) % 16 : Nat) : Int)) := by
  have h1 := neg_tmod n
  by_cases h0 : n % 16 = 0
  · have h2 : -((n % 16 : Nat) : Int) = 0 := by omega
    have h3 : (16 - n % 16) % 16 = 0 := by omega
    rw [h2] at h1
    refine pure_of_vc (by kernel_rfl) (fn := Try.f82) (by kernel_rfl) Try.func82 rfl (by show 2 ≤ 15; decide) (by simp [lows, V.low]) (by simp [lows, V.low, lows_ite, low_ite]) (go_start ?_)
    simp only [go_sem, ↓reduceIte, Nat.reduceEqDiff, Nat.reduceLT, Nat.reduceLeDiff, Nat.reduceAdd, Nat.reduceSub, Nat.reduceMul, Nat.reduceMod, Nat.reduceDiv, Int.reduceLE, Int.reduceLT, Int.reduceToNat, Int.reduceAdd, Int.reduceSub, Int.reduceMul, Int.reduceEq, Int.reduceNeg, BitVec.reduceOfInt, BitVec.reduceToNat, BitVec.reduceEq, BitVec.reduceNe, BitVec.reduceLT, reduceCtorEq, and_true, true_and, and_self, Nat.succ_ne_self, decide_true, decide_false, Bool.false_eq_true, Nat.one_ne_zero, Nat.zero_ne_one, Nat.not_lt_zero, Nat.zero_lt_succ, ge_iff_le, gt_iff_lt, decide_eq_true_eq, Option.some.injEq, List.getElem?_cons_zero, List.getElem?_cons_succ, List.length_cons, List.length_nil, Int.natCast_zero, List.map_cons, List.map_nil, List.append_nil, List.nil_append, List.cons_append, vconv, Option.map_some, Option.map_none, List.getD_cons_zero, List.getD_cons_succ, List.not_mem_nil, false_implies, implies_true, List.getElem?_toArray, Option.bind_some, List.set_cons_zero, List.set_cons_succ, List.take_succ_cons, List.take_zero, List.drop_succ_cons, List.drop_zero, List.drop_nil, List.take_nil, List.forall_mem_cons, List.forall_mem_nil, V.u8.injEq, exists_eq', Nat.zero_mul, Nat.one_mul, Nat.zero_add, Nat.mul_one, Nat.add_zero, Int.toNat_natCast, Int.cast_ofNat_Int, ne_eq, not_true_eq_false, not_false_eq_true, List.length_set, List.length_append, List.length_take, List.length_drop, List.length_replicate, Option.isSome_none, Option.isSome_some, w64_of, Bool.not_true, Bool.not_false, Bool.true_and, Bool.false_and, Bool.and_true, Bool.and_false, Bool.true_or, Bool.false_or, Bool.or_true, Bool.or_false, Bool.not_eq_true', decide_eq_false_iff_not, beq_self_eq_true, List.take_length, Nat.le_refl, Int.le_refl, Blk.mk.injEq, Try.ntmps82, Try.results82, h1, h3]
  · have h2 : -((n % 16 : Nat) : Int) < 0 := by omega
    have h3 : w64 (-((n % 16 : Nat) : Int) + 16) = (((16 - n % 16) % 16 : Nat) : Int) := by rw [w64_of (by omega) (by omega)]; omega
    have h4 : w64 (-((n % 16 : Nat) : Int)) = -((n % 16 : Nat) : Int) := w64_of (by omega) (by omega)
    refine pure_of_vc (by kernel_rfl) (fn := Try.f82) (by kernel_rfl) Try.func82 rfl (by show 2 ≤ 15; decide) (by simp [lows, V.low]) (by simp [lows, V.low, lows_ite, low_ite]) (go_start ?_)
    simp only [go_sem, ↓reduceIte, Nat.reduceEqDiff, Nat.reduceLT, Nat.reduceLeDiff, Nat.reduceAdd, Nat.reduceSub, Nat.reduceMul, Nat.reduceMod, Nat.reduceDiv, Int.reduceLE, Int.reduceLT, Int.reduceToNat, Int.reduceAdd, Int.reduceSub, Int.reduceMul, Int.reduceEq, Int.reduceNeg, BitVec.reduceOfInt, BitVec.reduceToNat, BitVec.reduceEq, BitVec.reduceNe, BitVec.reduceLT, reduceCtorEq, and_true, true_and, and_self, Nat.succ_ne_self, decide_true, decide_false, Bool.false_eq_true, Nat.one_ne_zero, Nat.zero_ne_one, Nat.not_lt_zero, Nat.zero_lt_succ, ge_iff_le, gt_iff_lt, decide_eq_true_eq, Option.some.injEq, List.getElem?_cons_zero, List.getElem?_cons_succ, List.length_cons, List.length_nil, Int.natCast_zero, List.map_cons, List.map_nil, List.append_nil, List.nil_append, List.cons_append, vconv, Option.map_some, Option.map_none, List.getD_cons_zero, List.getD_cons_succ, List.not_mem_nil, false_implies, implies_true, List.getElem?_toArray, Option.bind_some, List.set_cons_zero, List.set_cons_succ, List.take_succ_cons, List.take_zero, List.drop_succ_cons, List.drop_zero, List.drop_nil, List.take_nil, List.forall_mem_cons, List.forall_mem_nil, V.u8.injEq, exists_eq', Nat.zero_mul, Nat.one_mul, Nat.zero_add, Nat.mul_one, Nat.add_zero, Int.toNat_natCast, Int.cast_ofNat_Int, ne_eq, not_true_eq_false, not_false_eq_true, List.length_set, List.length_append, List.length_take, List.length_drop, List.length_replicate, Option.isSome_none, Option.isSome_some, w64_of, Bool.not_true, Bool.not_false, Bool.true_and, Bool.false_and, Bool.and_true, Bool.and_false, Bool.true_or, Bool.false_or, Bool.or_true, Bool.or_false, Bool.not_eq_true', decide_eq_false_iff_not, beq_self_eq_true, List.take_length, Nat.le_refl, Int.le_refl, Blk.mk.injEq, Try.ntmps82, Try.results82, h1, h2, h3, h4]
theorem filled_spec (s : List (BitVec 8)) (hs : s.length ≤ 140737488351232) : PureFn Try.prog 49 [.str s] (.str (fillB s)) := by
  have hn : w64 (0 - (s.length : Int)) = -(s.length : Int) := by rw [w64_of (by omega) (by omega)]; omega
  refine pure_of_vc (by kernel_rfl) (fn := Try.f49) (by kernel_rfl) Try.func49 rfl (by show 1 ≤ 10; decide) (by simp [lows, V.low]) (by simp [lows, V.low, lows_ite, low_ite]) (go_start ?_)
  simp only [go_sem, ↓reduceIte, Nat.reduceEqDiff, Nat.reduceLT, Nat.reduceLeDiff, Nat.reduceAdd, Nat.reduceSub, Nat.reduceMul, Nat.reduceMod, Nat.reduceDiv, Int.reduceLE, Int.reduceLT, Int.reduceToNat, Int.reduceAdd, Int.reduceSub, Int.reduceMul, Int.reduceEq, Int.reduceNeg, BitVec.reduceOfInt, BitVec.reduceToNat, BitVec.reduceEq, BitVec.reduceNe, BitVec.reduceLT, reduceCtorEq, and_true, true_and, and_self, Nat.succ_ne_self, decide_true, decide_false, Bool.false_eq_true, Nat.one_ne_zero, Nat.zero_ne_one, Nat.not_lt_zero, Nat.zero_lt_succ, ge_iff_le, gt_iff_lt, decide_eq_true_eq, Option.some.injEq, List.getElem?_cons_zero, List.getElem?_cons_succ, List.length_cons, List.length_nil, Int.natCast_zero, List.map_cons, List.map_nil, List.append_nil, List.nil_append, List.cons_append, vconv, Option.map_some, Option.map_none, List.getD_cons_zero, List.getD_cons_succ, List.not_mem_nil, false_implies, implies_true, List.getElem?_toArray, Option.bind_some, List.set_cons_zero, List.set_cons_succ, List.take_succ_cons, List.take_zero, List.drop_succ_cons, List.drop_zero, List.drop_nil, List.take_nil, List.forall_mem_cons, List.forall_mem_nil, V.u8.injEq, exists_eq', Nat.zero_mul, Nat.one_mul, Nat.zero_add, Nat.mul_one, Nat.add_zero, Int.toNat_natCast, Int.cast_ofNat_Int, ne_eq, not_true_eq_false, not_false_eq_true, List.length_set, List.length_append, List.length_take, List.length_drop, List.length_replicate, Option.isSome_none, Option.isSome_some, w64_of, Bool.not_true, Bool.not_false, Bool.true_and, Bool.false_and, Bool.and_true, Bool.and_false, Bool.true_or, Bool.false_or, Bool.or_true, Bool.or_false, Bool.not_eq_true', decide_eq_false_iff_not, beq_self_eq_true, List.take_length, Nat.le_refl, Int.le_refl, Blk.mk.injEq, Try.ntmps49, Try.results49, hn]
  refine goCall_pure0 (Rest_spec _ hs) ?_
  simp only [go_sem, ↓reduceIte, Nat.reduceEqDiff, Nat.reduceLT, Nat.reduceLeDiff, Nat.reduceAdd, Nat.reduceSub, Nat.reduceMul, Nat.reduceMod, Nat.reduceDiv, Int.reduceLE, Int.reduceLT, Int.reduceToNat, Int.reduceAdd, Int.reduceSub, Int.reduceMul, Int.reduceEq, Int.reduceNeg, BitVec.reduceOfInt, BitVec.reduceToNat, BitVec.reduceEq, BitVec.reduceNe, BitVec.reduceLT, reduceCtorEq, and_true, true_and, and_self, Nat.succ_ne_self, decide_true, decide_false, Bool.false_eq_true, Nat.one_ne_zero, Nat.zero_ne_one, Nat.not_lt_zero, Nat.zero_lt_succ, ge_iff_le, gt_iff_lt, decide_eq_true_eq, Option.some.injEq, List.getElem?_cons_zero, List.getElem?_cons_succ, List.length_cons, List.length_nil, Int.natCast_zero, List.map_cons, List.map_nil, List.append_nil, List.nil_append, List.cons_append, vconv, Option.map_some, Option.map_none, List.getD_cons_zero, List.getD_cons_succ, List.not_mem_nil, false_implies, implies_true, List.getElem?_toArray, Option.bind_some, List.set_cons_zero, List.set_cons_succ, List.take_succ_cons, List.take_zero, List.drop_succ_cons, List.drop_zero, List.drop_nil, List.take_nil, List.forall_mem_cons, List.forall_mem_nil, V.u8.injEq, exists_eq', Nat.zero_mul, Nat.one_mul, Nat.zero_add, Nat.mul_one, Nat.add_zero, Int.toNat_natCast, Int.cast_ofNat_Int, ne_eq, not_true_eq_false, not_false_eq_true, List.length_set, List.length_append, List.length_take, List.length_drop, List.length_replicate, Option.isSome_none, Option.isSome_some, w64_of, Bool.not_true, Bool.not_false, Bool.true_and, Bool.false_and, Bool.and_true, Bool.and_false, Bool.true_or, Bool.false_or, Bool.or_true, Bool.or_false, Bool.not_eq_true', decide_eq_false_iff_not, beq_self_eq_true, List.take_length, Nat.le_refl, Int.le_refl, Blk.mk.injEq]
  refine goCall_pure0 (zeros_spec _ (by omega)) ?_
  simp only [go_sem, ↓reduceIte, Nat.reduceEqDiff, Nat.reduceLT, Nat.reduceLeDiff, Nat.reduceAdd, Nat.reduceSub, Nat.reduceMul, Nat.reduceMod, Nat.reduceDiv, Int.reduceLE, Int.reduceLT, Int.reduceToNat, Int.reduceAdd, Int.reduceSub, Int.reduceMul, Int.reduceEq, Int.reduceNeg, BitVec.reduceOfInt, BitVec.reduceToNat, BitVec.reduceEq, BitVec.reduceNe, BitVec.reduceLT, reduceCtorEq, and_true, true_and, and_self, Nat.succ_ne_self, decide_true, decide_false, Bool.false_eq_true, Nat.one_ne_zero, Nat.zero_ne_one, Nat.not_lt_zero, Nat.zero_lt_succ, ge_iff_le, gt_iff_lt, decide_eq_true_eq, Option.some.injEq, List.getElem?_cons_zero, List.getElem?_cons_succ, List.length_cons, List.length_nil, Int.natCast_zero, List.map_cons, List.map_nil, List.append_nil, List.nil_append, List.cons_append, vconv, Option.map_some, Option.map_none, List.getD_cons_zero, List.getD_cons_succ, List.not_mem_nil, false_implies, implies_true, List.getElem?_toArray, Option.bind_some, List.set_cons_zero, List.set_cons_succ, List.take_succ_cons, List.take_zero, List.drop_succ_cons, List.drop_zero, List.drop_nil, List.take_nil, List.forall_mem_cons, List.forall_mem_nil, V.u8.injEq, exists_eq', Nat.zero_mul, Nat.one_mul, Nat.zero_add, Nat.mul_one, Nat.add_zero, Int.toNat_natCast, Int.cast_ofNat_Int, ne_eq, not_true_eq_false, not_false_eq_true, List.length_set, List.length_append, List.length_take, List.length_drop, List.length_replicate, Option.isSome_none, Option.isSome_some, w64_of, Bool.not_true, Bool.not_false, Bool.true_and, Bool.false_and, Bool.and_true, Bool.and_false, Bool.true_or, Bool.false_or, Bool.or_true, Bool.or_false, Bool.not_eq_true', decide_eq_false_iff_not, beq_self_eq_true, List.take_length, Nat.le_refl, Int.le_refl, Blk.mk.injEq]
  exact ⟨by omega, rfl⟩
end Go.Vm
end
section
namespace Go.Vm
open Go.Proofs
set_option maxRecDepth 20000
/-- The powers, as the reference makes them. -/
def prI : Nat → BitVec 8
  | 0 => 1#8
  | i + 1 => rmul (prI i) 3#8
theorem prI_eq (i : Nat) (h : i < 255) : prI i = pow3 i := by
  induction i with
  | zero => decide
  | succ i ih => rw [prI, ih (by omega), pow3_next i (by omega)]
def pwS : Nat → List (BitVec 8)
  | 0 => []
  | i + 1 => pwS i ++ [prI i]
theorem pwS_length (i : Nat) : (pwS i).length = i := by
  induction i with
  | zero => rfl
  | succ i ih => rw [pwS, List.length_append, ih]; rfl
theorem pwS_getD (n : Nat) : ∀ i, i < n → n ≤ 255 → (pwS n).getD i 0 = pow3 i := by
  induction n with
  | zero => intro i h; omega
  | succ n ih =>
    intro i h hn
    have hl := pwS_length n
    rw [pwS]
    by_cases h0 : i < n
    · rw [List.getD_eq_getElem?_getD, List.getElem?_append_left (by omega), ← List.getD_eq_getElem?_getD, ih i h0 (by omega)]
    · obtain rfl : i = n := by omega
      rw [List.getD_eq_getElem?_getD, List.getElem?_append_right (by omega), hl, Nat.sub_self, ← prI_eq i (by omega)]; rfl
theorem vrep8 (k : Nat) : vrep [V.u8 0#8] k = (List.replicate k 0#8).map V.u8 := by
  induction k with
  | zero => rfl
  | succ k ih => rw [vrep, ih]; rfl
theorem subs_spec : Spec0 Try.prog 86 [] [] (.slice 0 0 256 1) [some ⟨false, (outS 255).map .u8⟩] := by
  have hz : (List.replicate 256 0#8).length = 256 := List.length_replicate
  refine spec0_of_vc (by kernel_rfl) (fn := Try.f86) Try.func86 rfl (by show 0 ≤ 38; decide) (go_start ?_)
  simp only [go_sem, ↓reduceIte, Nat.reduceEqDiff, Nat.reduceLT, Nat.reduceLeDiff, Nat.reduceAdd, Nat.reduceSub, Nat.reduceMul, Nat.reduceMod, Nat.reduceDiv, Int.reduceLE, Int.reduceLT, Int.reduceToNat, Int.reduceAdd, Int.reduceSub, Int.reduceMul, Int.reduceEq, Int.reduceNeg, BitVec.reduceOfInt, BitVec.reduceToNat, BitVec.reduceEq, BitVec.reduceNe, BitVec.reduceLT, reduceCtorEq, and_true, true_and, and_self, Nat.succ_ne_self, decide_true, decide_false, Bool.false_eq_true, Nat.one_ne_zero, Nat.zero_ne_one, Nat.not_lt_zero, Nat.zero_lt_succ, ge_iff_le, gt_iff_lt, decide_eq_true_eq, Option.some.injEq, List.getElem?_cons_zero, List.getElem?_cons_succ, List.length_cons, List.length_nil, Int.natCast_zero, List.map_cons, List.map_nil, List.append_nil, List.nil_append, List.cons_append, vconv, Option.map_some, Option.map_none, List.getD_cons_zero, List.getD_cons_succ, List.not_mem_nil, false_implies, implies_true, List.getElem?_toArray, Option.bind_some, List.set_cons_zero, List.set_cons_succ, List.take_succ_cons, List.take_zero, List.drop_succ_cons, List.drop_zero, List.drop_nil, List.take_nil, List.forall_mem_cons, List.forall_mem_nil, V.u8.injEq, exists_eq', Nat.zero_mul, Nat.one_mul, Nat.zero_add, Nat.mul_one, Nat.add_zero, Int.toNat_natCast, Int.cast_ofNat_Int, ne_eq, not_true_eq_false, not_false_eq_true, List.length_set, List.length_append, List.length_take, List.length_drop, List.length_replicate, Option.isSome_none, Option.isSome_some, w64_of, Bool.not_true, Bool.not_false, Bool.true_and, Bool.false_and, Bool.and_true, Bool.and_false, Bool.true_or, Bool.false_or, Bool.or_true, Bool.or_false, Bool.not_eq_true', decide_eq_false_iff_not, beq_self_eq_true, List.take_length, Nat.le_refl, Int.le_refl, Blk.mk.injEq, Try.ntmps86, Try.results86, vrep8]
  refine go_loop (fun j st => ∃ i : Nat, i + j = 255 ∧ ((i = 0 ∧ st = ⟨[(1, .slice 0 0 256 1), (2, .nilSlice), (3, .u8 (prI 0)), (7, .i64 (0 : Nat))], [some ⟨false, (List.replicate 256 0#8).map .u8⟩]⟩) ∨
    (0 < i ∧ st = ⟨[(1, .slice 0 0 256 1), (2, .slice 1 0 i 1), (3, .u8 (prI i)), (7, .i64 i)], [some ⟨false, (List.replicate 256 0#8).map .u8⟩, some ⟨false, (pwS i).map .u8⟩]⟩))) ?_ ?_
  · exact start_mk 255 ⟨[(1, .slice 0 0 256 1), (2, .nilSlice), (3, .u8 (prI 0)), (7, .i64 (0 : Nat))], [some ⟨false, (List.replicate 256 0#8).map .u8⟩]⟩ (by simp [St.get, lookS, prI]) rfl (fun _ _ h => h) ⟨0, by omega, .inl ⟨rfl, rfl⟩⟩
  rintro j st ⟨i, hi, hcase⟩ _
  by_cases h0 : i < 255
  · have h0' : (i : Int) < 255 := by omega
    have hw1 : w64 ((i : Int) + 1) = ((i + 1 : Nat) : Int) := by rw [w64_of (by omega) (by omega)]; omega
    have hl := pwS_length i
    have hs : pwS (i + 1) = pwS i ++ [prI i] := rfl
    have hn : prI (i + 1) = rmul (prI i) 3#8 := rfl
    rcases hcase with ⟨rfl, rfl⟩ | ⟨hi0, rfl⟩
    · simp only [go_sem, ↓reduceIte, Nat.reduceEqDiff, Nat.reduceLT, Nat.reduceLeDiff, Nat.reduceAdd, Nat.reduceSub, Nat.reduceMul, Nat.reduceMod, Nat.reduceDiv, Int.reduceLE, Int.reduceLT, Int.reduceToNat, Int.reduceAdd, Int.reduceSub, Int.reduceMul, Int.reduceEq, Int.reduceNeg, BitVec.reduceOfInt, BitVec.reduceToNat, BitVec.reduceEq, BitVec.reduceNe, BitVec.reduceLT, reduceCtorEq, and_true, true_and, and_self, Nat.succ_ne_self, decide_true, decide_false, Bool.false_eq_true, Nat.one_ne_zero, Nat.zero_ne_one, Nat.not_lt_zero, Nat.zero_lt_succ, ge_iff_le, gt_iff_lt, decide_eq_true_eq, Option.some.injEq, List.getElem?_cons_zero, List.getElem?_cons_succ, List.length_cons, List.length_nil, Int.natCast_zero, List.map_cons, List.map_nil, List.append_nil, List.nil_append, List.cons_append, vconv, Option.map_some, Option.map_none, List.getD_cons_zero, List.getD_cons_succ, List.not_mem_nil, false_implies, implies_true, List.getElem?_toArray, Option.bind_some, List.set_cons_zero, List.set_cons_succ, List.take_succ_cons, List.take_zero, List.drop_succ_cons, List.drop_zero, List.drop_nil, List.take_nil, List.forall_mem_cons, List.forall_mem_nil, V.u8.injEq, exists_eq', Nat.zero_mul, Nat.one_mul, Nat.zero_add, Nat.mul_one, Nat.add_zero, Int.toNat_natCast, Int.cast_ofNat_Int, ne_eq, not_true_eq_false, not_false_eq_true, List.length_set, List.length_append, List.length_take, List.length_drop, List.length_replicate, Option.isSome_none, Option.isSome_some, w64_of, Bool.not_true, Bool.not_false, Bool.true_and, Bool.false_and, Bool.and_true, Bool.and_false, Bool.true_or, Bool.false_or, Bool.or_true, Bool.or_false, Bool.not_eq_true', decide_eq_false_iff_not, beq_self_eq_true, List.take_length, Nat.le_refl, Int.le_refl, Blk.mk.injEq]
      refine goCall_pure0 (RMul_spec _ _) ?_
      simp only [go_sem, ↓reduceIte, Nat.reduceEqDiff, Nat.reduceLT, Nat.reduceLeDiff, Nat.reduceAdd, Nat.reduceSub, Nat.reduceMul, Nat.reduceMod, Nat.reduceDiv, Int.reduceLE, Int.reduceLT, Int.reduceToNat, Int.reduceAdd, Int.reduceSub, Int.reduceMul, Int.reduceEq, Int.reduceNeg, BitVec.reduceOfInt, BitVec.reduceToNat, BitVec.reduceEq, BitVec.reduceNe, BitVec.reduceLT, reduceCtorEq, and_true, true_and, and_self, Nat.succ_ne_self, decide_true, decide_false, Bool.false_eq_true, Nat.one_ne_zero, Nat.zero_ne_one, Nat.not_lt_zero, Nat.zero_lt_succ, ge_iff_le, gt_iff_lt, decide_eq_true_eq, Option.some.injEq, List.getElem?_cons_zero, List.getElem?_cons_succ, List.length_cons, List.length_nil, Int.natCast_zero, List.map_cons, List.map_nil, List.append_nil, List.nil_append, List.cons_append, vconv, Option.map_some, Option.map_none, List.getD_cons_zero, List.getD_cons_succ, List.not_mem_nil, false_implies, implies_true, List.getElem?_toArray, Option.bind_some, List.set_cons_zero, List.set_cons_succ, List.take_succ_cons, List.take_zero, List.drop_succ_cons, List.drop_zero, List.drop_nil, List.take_nil, List.forall_mem_cons, List.forall_mem_nil, V.u8.injEq, exists_eq', Nat.zero_mul, Nat.one_mul, Nat.zero_add, Nat.mul_one, Nat.add_zero, Int.toNat_natCast, Int.cast_ofNat_Int, ne_eq, not_true_eq_false, not_false_eq_true, List.length_set, List.length_append, List.length_take, List.length_drop, List.length_replicate, Option.isSome_none, Option.isSome_some, w64_of, Bool.not_true, Bool.not_false, Bool.true_and, Bool.false_and, Bool.and_true, Bool.and_false, Bool.true_or, Bool.false_or, Bool.or_true, Bool.or_false, Bool.not_eq_true', decide_eq_false_iff_not, beq_self_eq_true, List.take_length, Nat.le_refl, Int.le_refl, Blk.mk.injEq]
      refine again_ren (j - 1) ⟨[(1, .slice 0 0 256 1), (2, .slice 1 0 1 1), (3, .u8 (prI 1)), (7, .i64 (1 : Nat))], [some ⟨false, (List.replicate 256 0#8).map .u8⟩, some ⟨false, (pwS 1).map .u8⟩]⟩ [0, 2] (by omega) rfl (by simp) rfl (by decide) ?_ ?_ ⟨1, by omega, .inr ⟨by omega, rfl⟩⟩
      · simp [slotsOk, St.get, lookS, prI, pwS, w64_of, -List.map_map, -List.map_set, vtuple_zero, rens_append, lows_append, sgOf_zero, sgOf_succ, rens, V.ren, lows, V.low, rens_u8, rens_u32, rens_u64, rens_i64, rens_str, lows_u8, lows_u32, lows_u64, lows_i64, lows_str, allSome, allRw, blksOk_nil, blksOk_none, blksOk_some, getH_zero, getH_succ, getH_nil]
      · simp [pwS, prI, -List.map_map, -List.map_set, vtuple_zero, rens_append, lows_append, sgOf_zero, sgOf_succ, rens, V.ren, lows, V.low, rens_u8, rens_u32, rens_u64, rens_i64, rens_str, lows_u8, lows_u32, lows_u64, lows_i64, lows_str, allSome, allRw, blksOk_nil, blksOk_none, blksOk_some, getH_zero, getH_succ, getH_nil]
    · simp only [go_sem, ↓reduceIte, Nat.reduceEqDiff, Nat.reduceLT, Nat.reduceLeDiff, Nat.reduceAdd, Nat.reduceSub, Nat.reduceMul, Nat.reduceMod, Nat.reduceDiv, Int.reduceLE, Int.reduceLT, Int.reduceToNat, Int.reduceAdd, Int.reduceSub, Int.reduceMul, Int.reduceEq, Int.reduceNeg, BitVec.reduceOfInt, BitVec.reduceToNat, BitVec.reduceEq, BitVec.reduceNe, BitVec.reduceLT, reduceCtorEq, and_true, true_and, and_self, Nat.succ_ne_self, decide_true, decide_false, Bool.false_eq_true, Nat.one_ne_zero, Nat.zero_ne_one, Nat.not_lt_zero, Nat.zero_lt_succ, ge_iff_le, gt_iff_lt, decide_eq_true_eq, Option.some.injEq, List.getElem?_cons_zero, List.getElem?_cons_succ, List.length_cons, List.length_nil, Int.natCast_zero, List.map_cons, List.map_nil, List.append_nil, List.nil_append, List.cons_append, vconv, Option.map_some, Option.map_none, List.getD_cons_zero, List.getD_cons_succ, List.not_mem_nil, false_implies, implies_true, List.getElem?_toArray, Option.bind_some, List.set_cons_zero, List.set_cons_succ, List.take_succ_cons, List.take_zero, List.drop_succ_cons, List.drop_zero, List.drop_nil, List.take_nil, List.forall_mem_cons, List.forall_mem_nil, V.u8.injEq, exists_eq', Nat.zero_mul, Nat.one_mul, Nat.zero_add, Nat.mul_one, Nat.add_zero, Int.toNat_natCast, Int.cast_ofNat_Int, ne_eq, not_true_eq_false, not_false_eq_true, List.length_set, List.length_append, List.length_take, List.length_drop, List.length_replicate, Option.isSome_none, Option.isSome_some, w64_of, Bool.not_true, Bool.not_false, Bool.true_and, Bool.false_and, Bool.and_true, Bool.and_false, Bool.true_or, Bool.false_or, Bool.or_true, Bool.or_false, Bool.not_eq_true', decide_eq_false_iff_not, beq_self_eq_true, List.take_length, Nat.le_refl, Int.le_refl, Blk.mk.injEq, h0', hl, List.take_of_length_le]
      refine ⟨by omega, ?_⟩
      refine goCall_pure0 (RMul_spec _ _) ?_
      simp only [go_sem, ↓reduceIte, Nat.reduceEqDiff, Nat.reduceLT, Nat.reduceLeDiff, Nat.reduceAdd, Nat.reduceSub, Nat.reduceMul, Nat.reduceMod, Nat.reduceDiv, Int.reduceLE, Int.reduceLT, Int.reduceToNat, Int.reduceAdd, Int.reduceSub, Int.reduceMul, Int.reduceEq, Int.reduceNeg, BitVec.reduceOfInt, BitVec.reduceToNat, BitVec.reduceEq, BitVec.reduceNe, BitVec.reduceLT, reduceCtorEq, and_true, true_and, and_self, Nat.succ_ne_self, decide_true, decide_false, Bool.false_eq_true, Nat.one_ne_zero, Nat.zero_ne_one, Nat.not_lt_zero, Nat.zero_lt_succ, ge_iff_le, gt_iff_lt, decide_eq_true_eq, Option.some.injEq, List.getElem?_cons_zero, List.getElem?_cons_succ, List.length_cons, List.length_nil, Int.natCast_zero, List.map_cons, List.map_nil, List.append_nil, List.nil_append, List.cons_append, vconv, Option.map_some, Option.map_none, List.getD_cons_zero, List.getD_cons_succ, List.not_mem_nil, false_implies, implies_true, List.getElem?_toArray, Option.bind_some, List.set_cons_zero, List.set_cons_succ, List.take_succ_cons, List.take_zero, List.drop_succ_cons, List.drop_zero, List.drop_nil, List.take_nil, List.forall_mem_cons, List.forall_mem_nil, V.u8.injEq, exists_eq', Nat.zero_mul, Nat.one_mul, Nat.zero_add, Nat.mul_one, Nat.add_zero, Int.toNat_natCast, Int.cast_ofNat_Int, ne_eq, not_true_eq_false, not_false_eq_true, List.length_set, List.length_append, List.length_take, List.length_drop, List.length_replicate, Option.isSome_none, Option.isSome_some, w64_of, Bool.not_true, Bool.not_false, Bool.true_and, Bool.false_and, Bool.and_true, Bool.and_false, Bool.true_or, Bool.false_or, Bool.or_true, Bool.or_false, Bool.not_eq_true', decide_eq_false_iff_not, beq_self_eq_true, List.take_length, Nat.le_refl, Int.le_refl, Blk.mk.injEq, ← hn, ← hs, hl, hw1]
      refine again_ren (j - 1) ⟨[(1, .slice 0 0 256 1), (2, .slice 1 0 (i + 1) 1), (3, .u8 (prI (i + 1))), (7, .i64 (i + 1 : Nat))], [some ⟨false, (List.replicate 256 0#8).map .u8⟩, some ⟨false, (pwS (i + 1)).map .u8⟩]⟩ [0, 3] (by omega) rfl (by simp) rfl (by decide) ?_ ?_ ⟨i + 1, by omega, .inr ⟨by omega, rfl⟩⟩
      · simp [slotsOk, St.get, lookS, -List.map_map, -List.map_set, vtuple_zero, rens_append, lows_append, sgOf_zero, sgOf_succ, rens, V.ren, lows, V.low, rens_u8, rens_u32, rens_u64, rens_i64, rens_str, lows_u8, lows_u32, lows_u64, lows_i64, lows_str, allSome, allRw, blksOk_nil, blksOk_none, blksOk_some, getH_zero, getH_succ, getH_nil]
      · simp [-List.map_map, -List.map_set, vtuple_zero, rens_append, lows_append, sgOf_zero, sgOf_succ, rens, V.ren, lows, V.low, rens_u8, rens_u32, rens_u64, rens_i64, rens_str, lows_u8, lows_u32, lows_u64, lows_i64, lows_str, allSome, allRw, blksOk_nil, blksOk_none, blksOk_some, getH_zero, getH_succ, getH_nil]
  · obtain rfl : i = 255 := by omega
    have h0' : ¬ ((255 : Nat) : Int) < 255 := by omega
    rcases hcase with ⟨h, _⟩ | ⟨_, rfl⟩
    · omega
    · have hl := pwS_length 255
      have hg := pwS_getD 255
      simp only [go_sem, ↓reduceIte, Nat.reduceEqDiff, Nat.reduceLT, Nat.reduceLeDiff, Nat.reduceAdd, Nat.reduceSub, Nat.reduceMul, Nat.reduceMod, Nat.reduceDiv, Int.reduceLE, Int.reduceLT, Int.reduceToNat, Int.reduceAdd, Int.reduceSub, Int.reduceMul, Int.reduceEq, Int.reduceNeg, BitVec.reduceOfInt, BitVec.reduceToNat, BitVec.reduceEq, BitVec.reduceNe, BitVec.reduceLT, reduceCtorEq, and_true, true_and, and_self, Nat.succ_ne_self, decide_true, decide_false, Bool.false_eq_true, Nat.one_ne_zero, Nat.zero_ne_one, Nat.not_lt_zero, Nat.zero_lt_succ, ge_iff_le, gt_iff_lt, decide_eq_true_eq, Option.some.injEq, List.getElem?_cons_zero, List.getElem?_cons_succ, List.length_cons, List.length_nil, Int.natCast_zero, List.map_cons, List.map_nil, List.append_nil, List.nil_append, List.cons_append, vconv, Option.map_some, Option.map_none, List.getD_cons_zero, List.getD_cons_succ, List.not_mem_nil, false_implies, implies_true, List.getElem?_toArray, Option.bind_some, List.set_cons_zero, List.set_cons_succ, List.take_succ_cons, List.take_zero, List.drop_succ_cons, List.drop_zero, List.drop_nil, List.take_nil, List.forall_mem_cons, List.forall_mem_nil, V.u8.injEq, exists_eq', Nat.zero_mul, Nat.one_mul, Nat.zero_add, Nat.mul_one, Nat.add_zero, Int.toNat_natCast, Int.cast_ofNat_Int, ne_eq, not_true_eq_false, not_false_eq_true, List.length_set, List.length_append, List.length_take, List.length_drop, List.length_replicate, Option.isSome_none, Option.isSome_some, w64_of, Bool.not_true, Bool.not_false, Bool.true_and, Bool.false_and, Bool.and_true, Bool.and_false, Bool.true_or, Bool.false_or, Bool.or_true, Bool.or_false, Bool.not_eq_true', decide_eq_false_iff_not, beq_self_eq_true, List.take_length, Nat.le_refl, Int.le_refl, Blk.mk.injEq, h0']
      refine goCall_pure0 (affine_spec _) ?_
      simp only [go_sem, ↓reduceIte, Nat.reduceEqDiff, Nat.reduceLT, Nat.reduceLeDiff, Nat.reduceAdd, Nat.reduceSub, Nat.reduceMul, Nat.reduceMod, Nat.reduceDiv, Int.reduceLE, Int.reduceLT, Int.reduceToNat, Int.reduceAdd, Int.reduceSub, Int.reduceMul, Int.reduceEq, Int.reduceNeg, BitVec.reduceOfInt, BitVec.reduceToNat, BitVec.reduceEq, BitVec.reduceNe, BitVec.reduceLT, reduceCtorEq, and_true, true_and, and_self, Nat.succ_ne_self, decide_true, decide_false, Bool.false_eq_true, Nat.one_ne_zero, Nat.zero_ne_one, Nat.not_lt_zero, Nat.zero_lt_succ, ge_iff_le, gt_iff_lt, decide_eq_true_eq, Option.some.injEq, List.getElem?_cons_zero, List.getElem?_cons_succ, List.length_cons, List.length_nil, Int.natCast_zero, List.map_cons, List.map_nil, List.append_nil, List.nil_append, List.cons_append, vconv, Option.map_some, Option.map_none, List.getD_cons_zero, List.getD_cons_succ, List.not_mem_nil, false_implies, implies_true, List.getElem?_toArray, Option.bind_some, List.set_cons_zero, List.set_cons_succ, List.take_succ_cons, List.take_zero, List.drop_succ_cons, List.drop_zero, List.drop_nil, List.take_nil, List.forall_mem_cons, List.forall_mem_nil, V.u8.injEq, exists_eq', Nat.zero_mul, Nat.one_mul, Nat.zero_add, Nat.mul_one, Nat.add_zero, Int.toNat_natCast, Int.cast_ofNat_Int, ne_eq, not_true_eq_false, not_false_eq_true, List.length_set, List.length_append, List.length_take, List.length_drop, List.length_replicate, Option.isSome_none, Option.isSome_some, w64_of, Bool.not_true, Bool.not_false, Bool.true_and, Bool.false_and, Bool.and_true, Bool.and_false, Bool.true_or, Bool.false_or, Bool.or_true, Bool.or_false, Bool.not_eq_true', decide_eq_false_iff_not, beq_self_eq_true, List.take_length, Nat.le_refl, Int.le_refl, Blk.mk.injEq, hz]
      have ho0 : (List.replicate 256 0#8).set 0 (aff 0#8) = outS 0 := rfl
      simp only [ho0]
      refine go_loop (fun jq st => ∃ q : Nat, q + jq = 255 ∧ st = ⟨[(1, .slice 0 0 256 1), (2, .slice 1 0 255 1), (19, .slice 1 0 255 1), (20, .i64 255), (21, .i64 q)], [some ⟨false, (outS q).map .u8⟩, some ⟨false, (pwS 255).map .u8⟩]⟩) ?_ ?_
      · exact start_mk (255) ⟨[(1, .slice 0 0 256 1), (2, .slice 1 0 255 1), (19, .slice 1 0 255 1), (20, .i64 255), (21, .i64 (0 : Nat))], [some ⟨false, (outS (0 : Nat)).map .u8⟩, some ⟨false, (pwS 255).map .u8⟩]⟩ (by simp [St.get, lookS, -List.map_set, -List.map_map]) rfl (fun _ _ h => h) ⟨0, by omega, rfl⟩
      rintro jq st ⟨q, hq, rfl⟩ _
      simp only [go_sem, ↓reduceIte, Nat.reduceEqDiff, Nat.reduceLT, Nat.reduceLeDiff, Nat.reduceAdd, Nat.reduceSub, Nat.reduceMul, Nat.reduceMod, Nat.reduceDiv, Int.reduceLE, Int.reduceLT, Int.reduceToNat, Int.reduceAdd, Int.reduceSub, Int.reduceMul, Int.reduceEq, Int.reduceNeg, BitVec.reduceOfInt, BitVec.reduceToNat, BitVec.reduceEq, BitVec.reduceNe, BitVec.reduceLT, reduceCtorEq, and_true, true_and, and_self, Nat.succ_ne_self, decide_true, decide_false, Bool.false_eq_true, Nat.one_ne_zero, Nat.zero_ne_one, Nat.not_lt_zero, Nat.zero_lt_succ, ge_iff_le, gt_iff_lt, decide_eq_true_eq, Option.some.injEq, List.getElem?_cons_zero, List.getElem?_cons_succ, List.length_cons, List.length_nil, Int.natCast_zero, List.map_cons, List.map_nil, List.append_nil, List.nil_append, List.cons_append, vconv, Option.map_some, Option.map_none, List.getD_cons_zero, List.getD_cons_succ, List.not_mem_nil, false_implies, implies_true, List.getElem?_toArray, Option.bind_some, List.set_cons_zero, List.set_cons_succ, List.take_succ_cons, List.take_zero, List.drop_succ_cons, List.drop_zero, List.drop_nil, List.take_nil, List.forall_mem_cons, List.forall_mem_nil, V.u8.injEq, exists_eq', Nat.zero_mul, Nat.one_mul, Nat.zero_add, Nat.mul_one, Nat.add_zero, Int.toNat_natCast, Int.cast_ofNat_Int, ne_eq, not_true_eq_false, not_false_eq_true, List.length_set, List.length_append, List.length_take, List.length_drop, List.length_replicate, Option.isSome_none, Option.isSome_some, w64_of, Bool.not_true, Bool.not_false, Bool.true_and, Bool.false_and, Bool.and_true, Bool.and_false, Bool.true_or, Bool.false_or, Bool.or_true, Bool.or_false, Bool.not_eq_true', decide_eq_false_iff_not, beq_self_eq_true, List.take_length, Nat.le_refl, Int.le_refl, Blk.mk.injEq]
      have hol := outS_length q
      by_cases hq0 : q < 255
      · have hq0' : (q : Int) < 255 := by omega
        have e1 : w64 (255 - (q : Int)) = ((255 - q : Nat) : Int) := by rw [w64_of (by omega) (by omega)]; omega
        have e2 : ((255 - q : Nat) : Int).tmod 255 = (((255 - q) % 255 : Nat) : Int) := rfl
        have g1 := hg q hq0 (by omega)
        have g2 := hg ((255 - q) % 255) (by omega) (by omega)
        have k1 : q < (pwS 255).length := by omega
        have k2 : (255 - q) % 255 < (pwS 255).length := by omega
        have k3 : (((255 - q) % 255 : Nat) : Int) < 255 := by omega
        have k4 : (255 - q) % 255 < 255 := by omega
        have z1 : (0 : Int) ≤ (((255 - q) % 255 : Nat) : Int) := by omega
        have hlt := (pow3 q).isLt
        have hlt' : ((pow3 q).toNat : Int) < 256 := by omega
        have z2 : (0 : Int) ≤ ((pow3 q).toNat : Int) := by omega
        have hst : (outS q).set (pow3 q).toNat (aff (pow3 ((255 - q) % 255))) = outS (q + 1) := rfl
        have hlt2 : (pow3 q).toNat < 256 := hlt
        simp only [go_sem, ↓reduceIte, Nat.reduceEqDiff, Nat.reduceLT, Nat.reduceLeDiff, Nat.reduceAdd, Nat.reduceSub, Nat.reduceMul, Nat.reduceMod, Nat.reduceDiv, Int.reduceLE, Int.reduceLT, Int.reduceToNat, Int.reduceAdd, Int.reduceSub, Int.reduceMul, Int.reduceEq, Int.reduceNeg, BitVec.reduceOfInt, BitVec.reduceToNat, BitVec.reduceEq, BitVec.reduceNe, BitVec.reduceLT, reduceCtorEq, and_true, true_and, and_self, Nat.succ_ne_self, decide_true, decide_false, Bool.false_eq_true, Nat.one_ne_zero, Nat.zero_ne_one, Nat.not_lt_zero, Nat.zero_lt_succ, ge_iff_le, gt_iff_lt, decide_eq_true_eq, Option.some.injEq, List.getElem?_cons_zero, List.getElem?_cons_succ, List.length_cons, List.length_nil, Int.natCast_zero, List.map_cons, List.map_nil, List.append_nil, List.nil_append, List.cons_append, vconv, Option.map_some, Option.map_none, List.getD_cons_zero, List.getD_cons_succ, List.not_mem_nil, false_implies, implies_true, List.getElem?_toArray, Option.bind_some, List.set_cons_zero, List.set_cons_succ, List.take_succ_cons, List.take_zero, List.drop_succ_cons, List.drop_zero, List.drop_nil, List.take_nil, List.forall_mem_cons, List.forall_mem_nil, V.u8.injEq, exists_eq', Nat.zero_mul, Nat.one_mul, Nat.zero_add, Nat.mul_one, Nat.add_zero, Int.toNat_natCast, Int.cast_ofNat_Int, ne_eq, not_true_eq_false, not_false_eq_true, List.length_set, List.length_append, List.length_take, List.length_drop, List.length_replicate, Option.isSome_none, Option.isSome_some, w64_of, Bool.not_true, Bool.not_false, Bool.true_and, Bool.false_and, Bool.and_true, Bool.and_false, Bool.true_or, Bool.false_or, Bool.or_true, Bool.or_false, Bool.not_eq_true', decide_eq_false_iff_not, beq_self_eq_true, List.take_length, Nat.le_refl, Int.le_refl, Blk.mk.injEq, hq0', hq0, hl, getD_u8 k1, g1, e1, e2, k3, k4, z1, getD_u8 k2, g2]
        refine ⟨by omega, ?_⟩
        refine goCall_pure0 (affine_spec _) ?_
        simp only [go_sem, ↓reduceIte, Nat.reduceEqDiff, Nat.reduceLT, Nat.reduceLeDiff, Nat.reduceAdd, Nat.reduceSub, Nat.reduceMul, Nat.reduceMod, Nat.reduceDiv, Int.reduceLE, Int.reduceLT, Int.reduceToNat, Int.reduceAdd, Int.reduceSub, Int.reduceMul, Int.reduceEq, Int.reduceNeg, BitVec.reduceOfInt, BitVec.reduceToNat, BitVec.reduceEq, BitVec.reduceNe, BitVec.reduceLT, reduceCtorEq, and_true, true_and, and_self, Nat.succ_ne_self, decide_true, decide_false, Bool.false_eq_true, Nat.one_ne_zero, Nat.zero_ne_one, Nat.not_lt_zero, Nat.zero_lt_succ, ge_iff_le, gt_iff_lt, decide_eq_true_eq, Option.some.injEq, List.getElem?_cons_zero, List.getElem?_cons_succ, List.length_cons, List.length_nil, Int.natCast_zero, List.map_cons, List.map_nil, List.append_nil, List.nil_append, List.cons_append, vconv, Option.map_some, Option.map_none, List.getD_cons_zero, List.getD_cons_succ, List.not_mem_nil, false_implies, implies_true, List.getElem?_toArray, Option.bind_some, List.set_cons_zero, List.set_cons_succ, List.take_succ_cons, List.take_zero, List.drop_succ_cons, List.drop_zero, List.drop_nil, List.take_nil, List.forall_mem_cons, List.forall_mem_nil, V.u8.injEq, exists_eq', Nat.zero_mul, Nat.one_mul, Nat.zero_add, Nat.mul_one, Nat.add_zero, Int.toNat_natCast, Int.cast_ofNat_Int, ne_eq, not_true_eq_false, not_false_eq_true, List.length_set, List.length_append, List.length_take, List.length_drop, List.length_replicate, Option.isSome_none, Option.isSome_some, w64_of, Bool.not_true, Bool.not_false, Bool.true_and, Bool.false_and, Bool.and_true, Bool.and_false, Bool.true_or, Bool.false_or, Bool.or_true, Bool.or_false, Bool.not_eq_true', decide_eq_false_iff_not, beq_self_eq_true, List.take_length, Nat.le_refl, Int.le_refl, Blk.mk.injEq, hst, hol, hlt2, hlt', z2]
        refine ⟨by omega, ?_⟩
        refine again_mk (jq - 1) ⟨[(1, .slice 0 0 256 1), (2, .slice 1 0 255 1), (19, .slice 1 0 255 1), (20, .i64 255), (21, .i64 (q + 1 : Nat))], [some ⟨false, (outS (q + 1 : Nat)).map .u8⟩, some ⟨false, (pwS 255).map .u8⟩]⟩ (by omega) ?_ rfl (fun _ _ h => h) ⟨q + 1, by omega, rfl⟩
        have hw1 : w64 ((q : Int) + 1) = ((q + 1 : Nat) : Int) := by rw [w64_of (by omega) (by omega)]; omega
        simp [St.get, lookS, hw1, -List.map_set, -List.map_map, List.length_nil]
      · obtain rfl : q = 255 := by omega
        have hq0' : ¬ ((255 : Nat) : Int) < 255 := by omega
        simp only [go_sem, ↓reduceIte, Nat.reduceEqDiff, Nat.reduceLT, Nat.reduceLeDiff, Nat.reduceAdd, Nat.reduceSub, Nat.reduceMul, Nat.reduceMod, Nat.reduceDiv, Int.reduceLE, Int.reduceLT, Int.reduceToNat, Int.reduceAdd, Int.reduceSub, Int.reduceMul, Int.reduceEq, Int.reduceNeg, BitVec.reduceOfInt, BitVec.reduceToNat, BitVec.reduceEq, BitVec.reduceNe, BitVec.reduceLT, reduceCtorEq, and_true, true_and, and_self, Nat.succ_ne_self, decide_true, decide_false, Bool.false_eq_true, Nat.one_ne_zero, Nat.zero_ne_one, Nat.not_lt_zero, Nat.zero_lt_succ, ge_iff_le, gt_iff_lt, decide_eq_true_eq, Option.some.injEq, List.getElem?_cons_zero, List.getElem?_cons_succ, List.length_cons, List.length_nil, Int.natCast_zero, List.map_cons, List.map_nil, List.append_nil, List.nil_append, List.cons_append, vconv, Option.map_some, Option.map_none, List.getD_cons_zero, List.getD_cons_succ, List.not_mem_nil, false_implies, implies_true, List.getElem?_toArray, Option.bind_some, List.set_cons_zero, List.set_cons_succ, List.take_succ_cons, List.take_zero, List.drop_succ_cons, List.drop_zero, List.drop_nil, List.take_nil, List.forall_mem_cons, List.forall_mem_nil, V.u8.injEq, exists_eq', Nat.zero_mul, Nat.one_mul, Nat.zero_add, Nat.mul_one, Nat.add_zero, Int.toNat_natCast, Int.cast_ofNat_Int, ne_eq, not_true_eq_false, not_false_eq_true, List.length_set, List.length_append, List.length_take, List.length_drop, List.length_replicate, Option.isSome_none, Option.isSome_some, w64_of, Bool.not_true, Bool.not_false, Bool.true_and, Bool.false_and, Bool.and_true, Bool.and_false, Bool.true_or, Bool.false_or, Bool.or_true, Bool.or_false, Bool.not_eq_true', decide_eq_false_iff_not, beq_self_eq_true, List.take_length, Nat.le_refl, Int.le_refl, Blk.mk.injEq, hq0']
        exact Fin.ren [0] (by simp) (by simp) (by rfl) (by decide) (by simp [-List.map_map, -List.map_set, vtuple_zero, rens_append, lows_append, sgOf_zero, sgOf_succ, rens, V.ren, lows, V.low, rens_u8, rens_u32, rens_u64, rens_i64, rens_str, lows_u8, lows_u32, lows_u64, lows_i64, lows_str, allSome, allRw, blksOk_nil, blksOk_none, blksOk_some, getH_zero, getH_succ, getH_nil]) (by simp [-List.map_map, -List.map_set, vtuple_zero, rens_append, lows_append, sgOf_zero, sgOf_succ, rens, V.ren, lows, V.low, rens_u8, rens_u32, rens_u64, rens_i64, rens_str, lows_u8, lows_u32, lows_u64, lows_i64, lows_str, allSome, allRw, blksOk_nil, blksOk_none, blksOk_some, getH_zero, getH_succ, getH_nil])
def subAll (s : List (BitVec 8)) : List (BitVec 8) := s.map subC
theorem chr_byte (b : BitVec 8) : BitVec.ofInt 8 (b.toNat : Int) = b := by
  rw [BitVec.ofInt_natCast]; simp
theorem subbed_spec (s : List (BitVec 8)) (m : Nat) (ws : List (List (BitVec 8))) (hs : s.length ≤ 1000) : Spec0 Try.prog 88 [.agg [.slice 0 0 256 1, .slice 1 0 m 1], .str s] [some ⟨false, (outS 255).map .u8⟩, some ⟨false, ws.map .str⟩] (.str (subAll s)) [some ⟨false, (outS 255).map .u8⟩, some ⟨false, ws.map .str⟩] := by
  have hol := outS_length 255
  have hS := S_sub
  generalize outS 255 = T at *
  refine spec0_of_vc (by kernel_rfl) (fn := Try.f88) Try.func88 rfl (by show 2 ≤ 25; decide) (go_start ?_)
  simp only [go_sem, ↓reduceIte, Nat.reduceEqDiff, Nat.reduceLT, Nat.reduceLeDiff, Nat.reduceAdd, Nat.reduceSub, Nat.reduceMul, Nat.reduceMod, Nat.reduceDiv, Int.reduceLE, Int.reduceLT, Int.reduceToNat, Int.reduceAdd, Int.reduceSub, Int.reduceMul, Int.reduceEq, Int.reduceNeg, BitVec.reduceOfInt, BitVec.reduceToNat, BitVec.reduceEq, BitVec.reduceNe, BitVec.reduceLT, reduceCtorEq, and_true, true_and, and_self, Nat.succ_ne_self, decide_true, decide_false, Bool.false_eq_true, Nat.one_ne_zero, Nat.zero_ne_one, Nat.not_lt_zero, Nat.zero_lt_succ, ge_iff_le, gt_iff_lt, decide_eq_true_eq, Option.some.injEq, List.getElem?_cons_zero, List.getElem?_cons_succ, List.length_cons, List.length_nil, Int.natCast_zero, List.map_cons, List.map_nil, List.append_nil, List.nil_append, List.cons_append, vconv, Option.map_some, Option.map_none, List.getD_cons_zero, List.getD_cons_succ, List.not_mem_nil, false_implies, implies_true, List.getElem?_toArray, Option.bind_some, List.set_cons_zero, List.set_cons_succ, List.take_succ_cons, List.take_zero, List.drop_succ_cons, List.drop_zero, List.drop_nil, List.take_nil, List.forall_mem_cons, List.forall_mem_nil, V.u8.injEq, exists_eq', Nat.zero_mul, Nat.one_mul, Nat.zero_add, Nat.mul_one, Nat.add_zero, Int.toNat_natCast, Int.cast_ofNat_Int, ne_eq, not_true_eq_false, not_false_eq_true, List.length_set, List.length_append, List.length_take, List.length_drop, List.length_replicate, Option.isSome_none, Option.isSome_some, w64_of, Bool.not_true, Bool.not_false, Bool.true_and, Bool.false_and, Bool.and_true, Bool.and_false, Bool.true_or, Bool.false_or, Bool.or_true, Bool.or_false, Bool.not_eq_true', decide_eq_false_iff_not, beq_self_eq_true, List.take_length, Nat.le_refl, Int.le_refl, Blk.mk.injEq, Try.ntmps88, Try.results88]
  refine go_loop (fun ji st => ∃ i : Nat, i + ji = s.length ∧ st = ⟨[(1, .str s), (2, .ptr 2 0), (5, .str (subAll (s.take i))), (8, .i64 s.length), (9, .i64 i)], [some ⟨false, T.map .u8⟩, some ⟨false, ws.map .str⟩, some ⟨false, [.slice 0 0 256 1, .slice 1 0 m 1]⟩]⟩) ?_ ?_
  · exact start_mk (s.length) ⟨[(1, .str s), (2, .ptr 2 0), (5, .str (subAll (s.take (0 : Nat)))), (8, .i64 s.length), (9, .i64 (0 : Nat))], [some ⟨false, T.map .u8⟩, some ⟨false, ws.map .str⟩, some ⟨false, [.slice 0 0 256 1, .slice 1 0 m 1]⟩]⟩ (by simp [St.get, lookS, -List.map_set, -List.map_map, subAll]) rfl (fun _ _ h => h) ⟨0, by omega, rfl⟩
  rintro ji st ⟨i, hi, rfl⟩ _
  simp only [go_sem, ↓reduceIte, Nat.reduceEqDiff, Nat.reduceLT, Nat.reduceLeDiff, Nat.reduceAdd, Nat.reduceSub, Nat.reduceMul, Nat.reduceMod, Nat.reduceDiv, Int.reduceLE, Int.reduceLT, Int.reduceToNat, Int.reduceAdd, Int.reduceSub, Int.reduceMul, Int.reduceEq, Int.reduceNeg, BitVec.reduceOfInt, BitVec.reduceToNat, BitVec.reduceEq, BitVec.reduceNe, BitVec.reduceLT, reduceCtorEq, and_true, true_and, and_self, Nat.succ_ne_self, decide_true, decide_false, Bool.false_eq_true, Nat.one_ne_zero, Nat.zero_ne_one, Nat.not_lt_zero, Nat.zero_lt_succ, ge_iff_le, gt_iff_lt, decide_eq_true_eq, Option.some.injEq, List.getElem?_cons_zero, List.getElem?_cons_succ, List.length_cons, List.length_nil, Int.natCast_zero, List.map_cons, List.map_nil, List.append_nil, List.nil_append, List.cons_append, vconv, Option.map_some, Option.map_none, List.getD_cons_zero, List.getD_cons_succ, List.not_mem_nil, false_implies, implies_true, List.getElem?_toArray, Option.bind_some, List.set_cons_zero, List.set_cons_succ, List.take_succ_cons, List.take_zero, List.drop_succ_cons, List.drop_zero, List.drop_nil, List.take_nil, List.forall_mem_cons, List.forall_mem_nil, V.u8.injEq, exists_eq', Nat.zero_mul, Nat.one_mul, Nat.zero_add, Nat.mul_one, Nat.add_zero, Int.toNat_natCast, Int.cast_ofNat_Int, ne_eq, not_true_eq_false, not_false_eq_true, List.length_set, List.length_append, List.length_take, List.length_drop, List.length_replicate, Option.isSome_none, Option.isSome_some, w64_of, Bool.not_true, Bool.not_false, Bool.true_and, Bool.false_and, Bool.and_true, Bool.and_false, Bool.true_or, Bool.false_or, Bool.or_true, Bool.or_false, Bool.not_eq_true', decide_eq_false_iff_not, beq_self_eq_true, List.take_length, Nat.le_refl, Int.le_refl, Blk.mk.injEq]
  by_cases h0 : i < s.length
  · have h0' : (i : Int) < (s.length : Int) := by omega
    have hlt := (s.getD i 0).isLt
    have hlt' : ((s.getD i 0).toNat : Int) < 256 := by omega
    have z1 : (0 : Int) ≤ ((s.getD i 0).toNat : Int) := by omega
    have k1 : (s.getD i 0).toNat < T.length := by omega
    have hg := hS (s.getD i 0)
    have hc := chr_spec ((subC (s.getD i 0)).toNat : Int)
    rw [chr_byte] at hc
    have hap : subAll (s.take i) ++ [subC (s.getD i 0)] = subAll (s.take (i + 1)) := by unfold subAll; rw [take_snoc h0, List.map_append]; rfl
    have hll : (subAll (s.take i)).length ≤ 1000 := by unfold subAll; rw [List.length_map, List.length_take]; omega
    have zi : (0 : Int) ≤ (i : Int) := by omega
    simp only [go_sem, ↓reduceIte, Nat.reduceEqDiff, Nat.reduceLT, Nat.reduceLeDiff, Nat.reduceAdd, Nat.reduceSub, Nat.reduceMul, Nat.reduceMod, Nat.reduceDiv, Int.reduceLE, Int.reduceLT, Int.reduceToNat, Int.reduceAdd, Int.reduceSub, Int.reduceMul, Int.reduceEq, Int.reduceNeg, BitVec.reduceOfInt, BitVec.reduceToNat, BitVec.reduceEq, BitVec.reduceNe, BitVec.reduceLT, reduceCtorEq, and_true, true_and, and_self, Nat.succ_ne_self, decide_true, decide_false, Bool.false_eq_true, Nat.one_ne_zero, Nat.zero_ne_one, Nat.not_lt_zero, Nat.zero_lt_succ, ge_iff_le, gt_iff_lt, decide_eq_true_eq, Option.some.injEq, List.getElem?_cons_zero, List.getElem?_cons_succ, List.length_cons, List.length_nil, Int.natCast_zero, List.map_cons, List.map_nil, List.append_nil, List.nil_append, List.cons_append, vconv, Option.map_some, Option.map_none, List.getD_cons_zero, List.getD_cons_succ, List.not_mem_nil, false_implies, implies_true, List.getElem?_toArray, Option.bind_some, List.set_cons_zero, List.set_cons_succ, List.take_succ_cons, List.take_zero, List.drop_succ_cons, List.drop_zero, List.drop_nil, List.take_nil, List.forall_mem_cons, List.forall_mem_nil, V.u8.injEq, exists_eq', Nat.zero_mul, Nat.one_mul, Nat.zero_add, Nat.mul_one, Nat.add_zero, Int.toNat_natCast, Int.cast_ofNat_Int, ne_eq, not_true_eq_false, not_false_eq_true, List.length_set, List.length_append, List.length_take, List.length_drop, List.length_replicate, Option.isSome_none, Option.isSome_some, w64_of, Bool.not_true, Bool.not_false, Bool.true_and, Bool.false_and, Bool.and_true, Bool.and_false, Bool.true_or, Bool.false_or, Bool.or_true, Bool.or_false, Bool.not_eq_true', decide_eq_false_iff_not, beq_self_eq_true, List.take_length, Nat.le_refl, Int.le_refl, Blk.mk.injEq, h0', h0, hlt', z1, zi, hol, getD_u8 k1, hg]
    refine ⟨by omega, ?_⟩
    refine goCallD_pure0 (hc) ?_
    simp only [go_sem, ↓reduceIte, Nat.reduceEqDiff, Nat.reduceLT, Nat.reduceLeDiff, Nat.reduceAdd, Nat.reduceSub, Nat.reduceMul, Nat.reduceMod, Nat.reduceDiv, Int.reduceLE, Int.reduceLT, Int.reduceToNat, Int.reduceAdd, Int.reduceSub, Int.reduceMul, Int.reduceEq, Int.reduceNeg, BitVec.reduceOfInt, BitVec.reduceToNat, BitVec.reduceEq, BitVec.reduceNe, BitVec.reduceLT, reduceCtorEq, and_true, true_and, and_self, Nat.succ_ne_self, decide_true, decide_false, Bool.false_eq_true, Nat.one_ne_zero, Nat.zero_ne_one, Nat.not_lt_zero, Nat.zero_lt_succ, ge_iff_le, gt_iff_lt, decide_eq_true_eq, Option.some.injEq, List.getElem?_cons_zero, List.getElem?_cons_succ, List.length_cons, List.length_nil, Int.natCast_zero, List.map_cons, List.map_nil, List.append_nil, List.nil_append, List.cons_append, vconv, Option.map_some, Option.map_none, List.getD_cons_zero, List.getD_cons_succ, List.not_mem_nil, false_implies, implies_true, List.getElem?_toArray, Option.bind_some, List.set_cons_zero, List.set_cons_succ, List.take_succ_cons, List.take_zero, List.drop_succ_cons, List.drop_zero, List.drop_nil, List.take_nil, List.forall_mem_cons, List.forall_mem_nil, V.u8.injEq, exists_eq', Nat.zero_mul, Nat.one_mul, Nat.zero_add, Nat.mul_one, Nat.add_zero, Int.toNat_natCast, Int.cast_ofNat_Int, ne_eq, not_true_eq_false, not_false_eq_true, List.length_set, List.length_append, List.length_take, List.length_drop, List.length_replicate, Option.isSome_none, Option.isSome_some, w64_of, Bool.not_true, Bool.not_false, Bool.true_and, Bool.false_and, Bool.and_true, Bool.and_false, Bool.true_or, Bool.false_or, Bool.or_true, Bool.or_false, Bool.not_eq_true', decide_eq_false_iff_not, beq_self_eq_true, List.take_length, Nat.le_refl, Int.le_refl, Blk.mk.injEq, hap]
    refine ⟨by omega, by kernel_rfl, ?_⟩
    refine again_mk (ji - 1) ⟨[(1, .str s), (2, .ptr 2 0), (5, .str (subAll (s.take (i + 1 : Nat)))), (8, .i64 s.length), (9, .i64 (i + 1 : Nat))], [some ⟨false, T.map .u8⟩, some ⟨false, ws.map .str⟩, some ⟨false, [.slice 0 0 256 1, .slice 1 0 m 1]⟩]⟩ (by omega) ?_ rfl (fun _ _ h => h) ⟨i + 1, by omega, rfl⟩
    have hw1 : w64 ((i : Int) + 1) = ((i + 1 : Nat) : Int) := by rw [w64_of (by omega) (by omega)]; omega
    simp [St.get, lookS, hw1, -List.map_set, -List.map_map, List.length_nil]
  · obtain rfl : i = s.length := by omega
    have h0' : ¬ (s.length : Int) < (s.length : Int) := by omega
    have ht : s.take s.length = s := List.take_length
    simp only [go_sem, ↓reduceIte, Nat.reduceEqDiff, Nat.reduceLT, Nat.reduceLeDiff, Nat.reduceAdd, Nat.reduceSub, Nat.reduceMul, Nat.reduceMod, Nat.reduceDiv, Int.reduceLE, Int.reduceLT, Int.reduceToNat, Int.reduceAdd, Int.reduceSub, Int.reduceMul, Int.reduceEq, Int.reduceNeg, BitVec.reduceOfInt, BitVec.reduceToNat, BitVec.reduceEq, BitVec.reduceNe, BitVec.reduceLT, reduceCtorEq, and_true, true_and, and_self, Nat.succ_ne_self, decide_true, decide_false, Bool.false_eq_true, Nat.one_ne_zero, Nat.zero_ne_one, Nat.not_lt_zero, Nat.zero_lt_succ, ge_iff_le, gt_iff_lt, decide_eq_true_eq, Option.some.injEq, List.getElem?_cons_zero, List.getElem?_cons_succ, List.length_cons, List.length_nil, Int.natCast_zero, List.map_cons, List.map_nil, List.append_nil, List.nil_append, List.cons_append, vconv, Option.map_some, Option.map_none, List.getD_cons_zero, List.getD_cons_succ, List.not_mem_nil, false_implies, implies_true, List.getElem?_toArray, Option.bind_some, List.set_cons_zero, List.set_cons_succ, List.take_succ_cons, List.take_zero, List.drop_succ_cons, List.drop_zero, List.drop_nil, List.take_nil, List.forall_mem_cons, List.forall_mem_nil, V.u8.injEq, exists_eq', Nat.zero_mul, Nat.one_mul, Nat.zero_add, Nat.mul_one, Nat.add_zero, Int.toNat_natCast, Int.cast_ofNat_Int, ne_eq, not_true_eq_false, not_false_eq_true, List.length_set, List.length_append, List.length_take, List.length_drop, List.length_replicate, Option.isSome_none, Option.isSome_some, w64_of, Bool.not_true, Bool.not_false, Bool.true_and, Bool.false_and, Bool.and_true, Bool.and_false, Bool.true_or, Bool.false_or, Bool.or_true, Bool.or_false, Bool.not_eq_true', decide_eq_false_iff_not, beq_self_eq_true, List.take_length, Nat.le_refl, Int.le_refl, Blk.mk.injEq, h0', ht]
    exact Fin.ren [0, 1] (by simp) (by simp) (by rfl) (by decide) (by simp [-List.map_map, -List.map_set, vtuple_zero, rens_append, lows_append, sgOf_zero, sgOf_succ, rens, V.ren, lows, V.low, rens_u8, rens_u32, rens_u64, rens_i64, rens_str, lows_u8, lows_u32, lows_u64, lows_i64, lows_str, allSome, allRw, blksOk_nil, blksOk_none, blksOk_some, getH_zero, getH_succ, getH_nil]) (by simp [-List.map_map, -List.map_set, vtuple_zero, rens_append, lows_append, sgOf_zero, sgOf_succ, rens, V.ren, lows, V.low, rens_u8, rens_u32, rens_u64, rens_i64, rens_str, lows_u8, lows_u32, lows_u64, lows_i64, lows_str, allSome, allRw, blksOk_nil, blksOk_none, blksOk_some, getH_zero, getH_succ, getH_nil])
end Go.Vm
end
