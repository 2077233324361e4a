/- A part of the proof: laws of a small machine of values, or what one function answers, proved against the model; no conditions beyond those in each theorem. -/
import Derived.Shelf.Strings.Repeat
import Derived.Test.YtdghkibbiahbmaaTypesToAeA
import Derived.Test.YtdghkibbiahbmaaShelfJoinToAeB
set_option linter.unusedVariables false
set_option linter.unusedSimpArgs false
set_option linter.unusedSectionVars false
section
namespace Go.Vm
open Go.Proofs Go.Shelf
def shelf_lays105_ren : Go.Shelf.Ren := ⟨fun | 105 => 81 | 212 => 109 | 99 => 110 | 165 => 89 | 166 => 90 | 170 => 111 | 169 => 91 | 263 => 122 | 264 => 77 | 206 => 123 | 240 => 115 | 241 => 116 | 276 => 124 | 277 => 125 | n => n, fun | 9 => 9 | 3 => 3 | 4 => 4 | 20 => 20 | 0 => 0 | 46 => 85 | 109 => 117 | 5 => 5 | 72 => 101 | 76 => 105 | 51 => 73 | 146 => 132 | 53 => 35 | 148 => 81 | 70 => 99 | 37 => 43 | 75 => 104 | 127 => 121 | 164 => 134 | 80 => 56 | n => n, fun | n => n⟩
theorem shelf_lays105 : Go.Proofs.Lays.n105 Try.prog shelf_lays105_ren := {
  mixed := by kernel_rfl
  f99 := Try.func110.trans (congrArg some (by kernel_rfl))
  f105 := Try.func81.trans (congrArg some (by kernel_rfl))
  f165 := Try.func89.trans (congrArg some (by kernel_rfl))
  f166 := Try.func90.trans (congrArg some (by kernel_rfl))
  f169 := Try.func91.trans (congrArg some (by kernel_rfl))
  f170 := Try.func111.trans (congrArg some (by kernel_rfl))
  f206 := Try.func123.trans (congrArg some (by kernel_rfl))
  f212 := Try.func109.trans (congrArg some (by kernel_rfl))
  f240 := Try.func115.trans (congrArg some (by kernel_rfl))
  f241 := Try.func116.trans (congrArg some (by kernel_rfl))
  f263 := Try.func122.trans (congrArg some (by kernel_rfl))
  f264 := Try.func77.trans (congrArg some (by kernel_rfl))
  f276 := Try.func124.trans (congrArg some (by kernel_rfl))
  f277 := Try.func125.trans (congrArg some (by kernel_rfl))
  t0 := Try.underlying0
  a0 := Try.isAgg0
  z0 := Try.sizeOf0
  v0 := Try.zeroValue0
  t3 := Try.underlying3
  a3 := Try.isAgg3
  z3 := Try.sizeOf3
  v3 := Try.zeroValue3
  t4 := Try.underlying4
  a4 := Try.isAgg4
  z4 := Try.sizeOf4
  v4 := Try.zeroValue4
  t5 := Try.underlying5
  a5 := Try.isAgg5
  z5 := Try.sizeOf5
  v5 := Try.zeroValue5
  t9 := Try.underlying9
  a9 := Try.isAgg9
  z9 := Try.sizeOf9
  v9 := Try.zeroValue9
  t20 := Try.underlying20
  a20 := Try.isAgg20
  z20 := Try.sizeOf20
  v20 := Try.zeroValue20
  t37 := Try.underlying43
  a37 := Try.isAgg43
  z37 := Try.sizeOf43
  v37 := Try.zeroValue43
  t46 := Try.underlying85
  a46 := Try.isAgg85
  z46 := Try.sizeOf85
  v46 := Try.zeroValue85
  t51 := Try.underlying73
  a51 := Try.isAgg73
  z51 := Try.sizeOf73
  v51 := Try.zeroValue73
  t53 := Try.underlying35
  a53 := Try.isAgg35
  z53 := Try.sizeOf35
  v53 := Try.zeroValue35
  t70 := Try.underlying99
  a70 := Try.isAgg99
  z70 := Try.sizeOf99
  v70 := Try.zeroValue99
  t72 := Try.underlying101
  a72 := Try.isAgg101
  z72 := Try.sizeOf101
  v72 := Try.zeroValue101
  t75 := Try.underlying104
  a75 := Try.isAgg104
  z75 := Try.sizeOf104
  v75 := Try.zeroValue104
  t76 := Try.underlying105
  a76 := Try.isAgg105
  z76 := Try.sizeOf105
  v76 := Try.zeroValue105
  t109 := Try.underlying117
  a109 := Try.isAgg117
  z109 := Try.sizeOf117
  v109 := Try.zeroValue117
  t127 := Try.underlying121
  a127 := Try.isAgg121
  z127 := Try.sizeOf121
  v127 := Try.zeroValue121
  t146 := Try.underlying132
  a146 := Try.isAgg132
  z146 := Try.sizeOf132
  v146 := Try.zeroValue132
  t148 := Try.underlying81
  a148 := Try.isAgg81
  z148 := Try.sizeOf81
  v148 := Try.zeroValue81
  t164 := Try.underlying134
  a164 := Try.isAgg134
  z164 := Try.sizeOf134
  v164 := Try.zeroValue134 }
theorem shelf_Builder_Extra_105 : Builder.Extra Try.prog shelf_lays105_ren := {
  sizeBuilder := by kernel_rfl
  liesBuilder := by kernel_rfl
  t5 := Try.underlying5
  a5 := Try.isAgg5
  z5 := Try.sizeOf5
  v5 := Try.zeroValue5
  infoByte := by kernel_rfl
  cellsByte := by kernel_rfl
  sizeByte := by kernel_rfl
  neB5 := by decide }
open Go.RowKit Go.Lib in
theorem shelf_strings_Repeat (s : ByteArray) (c : Nat) (w : World) (hc : c ≤ 9223372036854775807) (hlen : s.size * c ≤ 140737488355328) :
    Calls Try.prog 81 #[.string s, .int .i64 c] w fun e w' => e = .returned (.string ⟨(Lib.repeatL s.data.toList c).toArray⟩) ∧ Below w.heap.size w w' := Any.strings_Repeat shelf_lays105 shelf_Builder_Extra_105 s c w hc hlen
end Go.Vm
end
section
namespace Go.Vm
open Go.Proofs
set_option maxRecDepth 20000
def fillB (s : List (BitVec 8)) : List (BitVec 8) := s ++ List.replicate ((16 - s.length % 16) % 16) 0
theorem fillB_length (s : List (BitVec 8)) : (fillB s).length = 16 * ((s.length + 15) / 16) := by unfold fillB; rw [List.length_append, List.length_replicate]; omega
theorem repeat_zero (k : Nat) : ∀ (l : List UInt8), l.map UInt8.toBitVec = [0#8] → (Lib.repeatL l k).map UInt8.toBitVec = List.replicate k 0#8 := by
  intro l h
  induction k with
  | zero => rfl
  | succ k ih => rw [Lib.repeatL, List.map_append, ih, h, List.replicate_succ]; rfl
theorem Repeat_spec (k : Nat) (hk : k ≤ 1000) : PureFn Try.prog 81 [.str [0#8], .i64 k] (.str (List.replicate k 0#8)) := by
  refine pure_of_below (by kernel_rfl) (by simp [lows, V.low]) (by simp [V.low]) fun w rargs hr => ?_
  unfold VRs at hr
  obtain ⟨r1, rs, e1, h1, hr⟩ := hr
  unfold VRs at hr
  obtain ⟨r2, rs2, e2, h2, hr⟩ := hr
  unfold VRs at hr
  unfold VR at h1 h2
  obtain ⟨b, rfl, hb⟩ := h1
  subst h2 hr e2
  have ha : rargs = #[.string b, .int .i64 k] := by cases rargs; simp_all
  subst ha
  have hsz : b.size = 1 := by
    have := congrArg List.length hb
    unfold bytesOf at this
    rw [List.length_map, Array.length_toList] at this
    exact this
  refine (shelf_strings_Repeat b k w (by omega) (by rw [hsz]; omega)).mono ?_
  rintro e w' ⟨rfl, hbl⟩
  refine ⟨_, rfl, ?_, hbl⟩
  unfold VR
  exact ⟨_, rfl, repeat_zero k _ hb⟩
theorem zeros_spec (k : Nat) (hk : k ≤ 1000) : PureFn Try.prog 48 [.i64 k] (.str (List.replicate k 0#8)) := by
  have hc := chr_spec 0
  rw [show BitVec.ofInt 8 0 = 0#8 from rfl] at hc
  refine pure_of_vc (by kernel_rfl) (fn := Try.f48) (by kernel_rfl) Try.func48 rfl (by show 1 ≤ 6; decide) (by simp [lows, V.low]) (by simp [lows, V.low, lows_ite, low_ite]) (go_start ?_)
  simp only [go_sem, ↓reduceIte, Nat.reduceEqDiff, Nat.reduceLT, Nat.reduceLeDiff, Nat.reduceAdd, Nat.reduceSub, Nat.reduceMul, Nat.reduceMod, Nat.reduceDiv, Int.reduceLE, Int.reduceLT, Int.reduceToNat, Int.reduceAdd, Int.reduceSub, Int.reduceMul, Int.reduceEq, Int.reduceNeg, BitVec.reduceOfInt, BitVec.reduceToNat, BitVec.reduceEq, BitVec.reduceNe, BitVec.reduceLT, reduceCtorEq, List.forall_mem_nil, Try.ntmps48, Try.results48]
  refine goCall_pure0 (hc) ?_
  simp only [go_sem, ↓reduceIte, Nat.reduceEqDiff, Nat.reduceLT, Nat.reduceLeDiff, Nat.reduceAdd, Nat.reduceSub, Nat.reduceMul, Nat.reduceMod, Nat.reduceDiv, Int.reduceLE, Int.reduceLT, Int.reduceToNat, Int.reduceAdd, Int.reduceSub, Int.reduceMul, Int.reduceEq, Int.reduceNeg, BitVec.reduceOfInt, BitVec.reduceToNat, BitVec.reduceEq, BitVec.reduceNe, BitVec.reduceLT, reduceCtorEq, List.forall_mem_nil]
  refine goCall_pure0 (Repeat_spec k hk) ?_
  simp only [go_sem, ↓reduceIte, Nat.reduceEqDiff, Nat.reduceLT, Nat.reduceLeDiff, Nat.reduceAdd, Nat.reduceSub, Nat.reduceMul, Nat.reduceMod, Nat.reduceDiv, Int.reduceLE, Int.reduceLT, Int.reduceToNat, Int.reduceAdd, Int.reduceSub, Int.reduceMul, Int.reduceEq, Int.reduceNeg, BitVec.reduceOfInt, BitVec.reduceToNat, BitVec.reduceEq, BitVec.reduceNe, BitVec.reduceLT, reduceCtorEq, List.forall_mem_nil]
theorem neg_tmod (n : Nat) : (-(n : Int)).tmod 16 = -((n % 16 : Nat) : Int) := by rw [Int.neg_tmod]; rfl
theorem Rest_spec (n : Nat) (hn : n ≤ 140737488351232) : PureFn Try.prog 82 [.i64 (-(n : Int)), .i64 16] (.i64 (((16 - n % 16) % 16 : Nat) : Int)) := by
  have h1 := neg_tmod n
  by_cases h0 : n % 16 = 0
  · have h2 : -((n % 16 : Nat) : Int) = 0 := by omega
    have h3 : (16 - n % 16) % 16 = 0 := by omega
    rw [h2] at h1
    refine pure_of_vc (by kernel_rfl) (fn := Try.f82) (by kernel_rfl) Try.func82 rfl (by show 2 ≤ 15; decide) (by simp [lows, V.low]) (by simp [lows, V.low, lows_ite, low_ite]) (go_start ?_)
    simp only [go_sem, ↓reduceIte, Nat.reduceEqDiff, Nat.reduceLT, Nat.reduceLeDiff, Nat.reduceAdd, Nat.reduceSub, Nat.reduceMul, Nat.reduceMod, Nat.reduceDiv, Int.reduceLE, Int.reduceLT, Int.reduceToNat, Int.reduceAdd, Int.reduceSub, Int.reduceMul, Int.reduceEq, Int.reduceNeg, BitVec.reduceOfInt, BitVec.reduceToNat, BitVec.reduceEq, BitVec.reduceNe, BitVec.reduceLT, reduceCtorEq, List.forall_mem_nil, Try.ntmps82, Try.results82, h1, h3]
  · have h2 : -((n % 16 : Nat) : Int) < 0 := by omega
    have h3 : w64 (-((n % 16 : Nat) : Int) + 16) = (((16 - n % 16) % 16 : Nat) : Int) := by rw [w64_of (by omega) (by omega)]; omega
    have h4 : w64 (-((n % 16 : Nat) : Int)) = -((n % 16 : Nat) : Int) := w64_of (by omega) (by omega)
    refine pure_of_vc (by kernel_rfl) (fn := Try.f82) (by kernel_rfl) Try.func82 rfl (by show 2 ≤ 15; decide) (by simp [lows, V.low]) (by simp [lows, V.low, lows_ite, low_ite]) (go_start ?_)
    simp only [go_sem, ↓reduceIte, Nat.reduceEqDiff, Nat.reduceLT, Nat.reduceLeDiff, Nat.reduceAdd, Nat.reduceSub, Nat.reduceMul, Nat.reduceMod, Nat.reduceDiv, Int.reduceLE, Int.reduceLT, Int.reduceToNat, Int.reduceAdd, Int.reduceSub, Int.reduceMul, Int.reduceEq, Int.reduceNeg, BitVec.reduceOfInt, BitVec.reduceToNat, BitVec.reduceEq, BitVec.reduceNe, BitVec.reduceLT, reduceCtorEq, List.forall_mem_nil, Try.ntmps82, Try.results82, h1, h2, h3, h4]
theorem filled_spec (s : List (BitVec 8)) (hs : s.length ≤ 140737488351232) : PureFn Try.prog 49 [.str s] (.str (fillB s)) := by
  have hn : w64 (0 - (s.length : Int)) = -(s.length : Int) := by rw [w64_of (by omega) (by omega)]; omega
  refine pure_of_vc (by kernel_rfl) (fn := Try.f49) (by kernel_rfl) Try.func49 rfl (by show 1 ≤ 10; decide) (by simp [lows, V.low]) (by simp [lows, V.low, lows_ite, low_ite]) (go_start ?_)
  simp only [go_sem, ↓reduceIte, Nat.reduceEqDiff, Nat.reduceLT, Nat.reduceLeDiff, Nat.reduceAdd, Nat.reduceSub, Nat.reduceMul, Nat.reduceMod, Nat.reduceDiv, Int.reduceLE, Int.reduceLT, Int.reduceToNat, Int.reduceAdd, Int.reduceSub, Int.reduceMul, Int.reduceEq, Int.reduceNeg, BitVec.reduceOfInt, BitVec.reduceToNat, BitVec.reduceEq, BitVec.reduceNe, BitVec.reduceLT, reduceCtorEq, List.forall_mem_nil, Try.ntmps49, Try.results49, hn]
  refine goCall_pure0 (Rest_spec _ hs) ?_
  simp only [go_sem, ↓reduceIte, Nat.reduceEqDiff, Nat.reduceLT, Nat.reduceLeDiff, Nat.reduceAdd, Nat.reduceSub, Nat.reduceMul, Nat.reduceMod, Nat.reduceDiv, Int.reduceLE, Int.reduceLT, Int.reduceToNat, Int.reduceAdd, Int.reduceSub, Int.reduceMul, Int.reduceEq, Int.reduceNeg, BitVec.reduceOfInt, BitVec.reduceToNat, BitVec.reduceEq, BitVec.reduceNe, BitVec.reduceLT, reduceCtorEq, List.forall_mem_nil]
  refine goCall_pure0 (zeros_spec _ (by omega)) ?_
  simp only [go_sem, ↓reduceIte, Nat.reduceEqDiff, Nat.reduceLT, Nat.reduceLeDiff, Nat.reduceAdd, Nat.reduceSub, Nat.reduceMul, Nat.reduceMod, Nat.reduceDiv, Int.reduceLE, Int.reduceLT, Int.reduceToNat, Int.reduceAdd, Int.reduceSub, Int.reduceMul, Int.reduceEq, Int.reduceNeg, BitVec.reduceOfInt, BitVec.reduceToNat, BitVec.reduceEq, BitVec.reduceNe, BitVec.reduceLT, reduceCtorEq, List.forall_mem_nil]
  exact ⟨by omega, rfl⟩
end Go.Vm
end
section
namespace Go.Vm
open Go.Proofs
set_option maxRecDepth 20000
/-- The powers, as the reference makes them. -/
def prI : Nat → BitVec 8
  | 0 => 1#8
  | i + 1 => rmul (prI i) 3#8
theorem prI_eq (i : Nat) (h : i < 255) : prI i = pow3 i := by
  induction i with
  | zero => decide
  | succ i ih => rw [prI, ih (by omega), pow3_next i (by omega)]
def pwS : Nat → List (BitVec 8)
  | 0 => []
  | i + 1 => pwS i ++ [prI i]
theorem pwS_length (i : Nat) : (pwS i).length = i := by
  induction i with
  | zero => rfl
  | succ i ih => rw [pwS, List.length_append, ih]; rfl
theorem pwS_getD (n : Nat) : ∀ i, i < n → n ≤ 255 → (pwS n).getD i 0 = pow3 i := by
  induction n with
  | zero => intro i h; omega
  | succ n ih =>
    intro i h hn
    have hl := pwS_length n
    rw [pwS]
    by_cases h0 : i < n
    · rw [List.getD_eq_getElem?_getD, List.getElem?_append_left (by omega), ← List.getD_eq_getElem?_getD, ih i h0 (by omega)]
    · obtain rfl : i = n := by omega
      rw [List.getD_eq_getElem?_getD, List.getElem?_append_right (by omega), hl, Nat.sub_self, ← prI_eq i (by omega)]; rfl
theorem vrep8 (k : Nat) : vrep [V.u8 0#8] k = (List.replicate k 0#8).map V.u8 := by
  induction k with
  | zero => rfl
  | succ k ih => rw [vrep, ih]; rfl
theorem subs_spec : Spec0 Try.prog 86 [] [] (.slice 0 0 256 1) [some ⟨false, (outS 255).map .u8⟩] := by
  have hz : (List.replicate 256 0#8).length = 256 := List.length_replicate
  refine spec0_of_vc (by kernel_rfl) (fn := Try.f86) Try.func86 rfl (by show 0 ≤ 38; decide) (go_start ?_)
  simp only [go_sem, ↓reduceIte, Nat.reduceEqDiff, Nat.reduceLT, Nat.reduceLeDiff, Nat.reduceAdd, Nat.reduceSub, Nat.reduceMul, Nat.reduceMod, Nat.reduceDiv, Int.reduceLE, Int.reduceLT, Int.reduceToNat, Int.reduceAdd, Int.reduceSub, Int.reduceMul, Int.reduceEq, Int.reduceNeg, BitVec.reduceOfInt, BitVec.reduceToNat, BitVec.reduceEq, BitVec.reduceNe, BitVec.reduceLT, reduceCtorEq, List.forall_mem_nil, Try.ntmps86, Try.results86, vrep8]
  refine go_loop (fun j st => ∃ i : Nat, i + j = 255 ∧ ((i = 0 ∧ st = ⟨[(1, .slice 0 0 256 1), (2, .nilSlice), (3, .u8 (prI 0)), (7, .i64 (0 : Nat))], [some ⟨false, (List.replicate 256 0#8).map .u8⟩]⟩) ∨
    (0 < i ∧ st = ⟨[(1, .slice 0 0 256 1), (2, .slice 1 0 i 1), (3, .u8 (prI i)), (7, .i64 i)], [some ⟨false, (List.replicate 256 0#8).map .u8⟩, some ⟨false, (pwS i).map .u8⟩]⟩))) ?_ ?_
  · exact start_mk 255 ⟨[(1, .slice 0 0 256 1), (2, .nilSlice), (3, .u8 (prI 0)), (7, .i64 (0 : Nat))], [some ⟨false, (List.replicate 256 0#8).map .u8⟩]⟩ (by simp [St.get, lookS, prI]) rfl (fun _ _ h => h) ⟨0, by omega, .inl ⟨rfl, rfl⟩⟩
  rintro j st ⟨i, hi, hcase⟩ _
  by_cases h0 : i < 255
  · have h0' : (i : Int) < 255 := by omega
    have hw1 : w64 ((i : Int) + 1) = ((i + 1 : Nat) : Int) := by rw [w64_of (by omega) (by omega)]; omega
    have hl := pwS_length i
    have hs : pwS (i + 1) = pwS i ++ [prI i] := rfl
    have hn : prI (i + 1) = rmul (prI i) 3#8 := rfl
    rcases hcase with ⟨rfl, rfl⟩ | ⟨hi0, rfl⟩
    · simp only [go_sem, ↓reduceIte, Nat.reduceEqDiff, Nat.reduceLT, Nat.reduceLeDiff, Nat.reduceAdd, Nat.reduceSub, Nat.reduceMul, Nat.reduceMod, Nat.reduceDiv, Int.reduceLE, Int.reduceLT, Int.reduceToNat, Int.reduceAdd, Int.reduceSub, Int.reduceMul, Int.reduceEq, Int.reduceNeg, BitVec.reduceOfInt, BitVec.reduceToNat, BitVec.reduceEq, BitVec.reduceNe, BitVec.reduceLT, reduceCtorEq, List.forall_mem_nil]
      refine goCall_pure0 (RMul_spec _ _) ?_
      simp only [go_sem, ↓reduceIte, Nat.reduceEqDiff, Nat.reduceLT, Nat.reduceLeDiff, Nat.reduceAdd, Nat.reduceSub, Nat.reduceMul, Nat.reduceMod, Nat.reduceDiv, Int.reduceLE, Int.reduceLT, Int.reduceToNat, Int.reduceAdd, Int.reduceSub, Int.reduceMul, Int.reduceEq, Int.reduceNeg, BitVec.reduceOfInt, BitVec.reduceToNat, BitVec.reduceEq, BitVec.reduceNe, BitVec.reduceLT, reduceCtorEq, List.forall_mem_nil]
      refine again_ren (j - 1) ⟨[(1, .slice 0 0 256 1), (2, .slice 1 0 1 1), (3, .u8 (prI 1)), (7, .i64 (1 : Nat))], [some ⟨false, (List.replicate 256 0#8).map .u8⟩, some ⟨false, (pwS 1).map .u8⟩]⟩ [0, 2] (by omega) rfl (by simp) rfl (by decide) ?_ ?_ ⟨1, by omega, .inr ⟨by omega, rfl⟩⟩
      · simp [slotsOk, St.get, lookS, prI, pwS, w64_of, -List.map_map, -List.map_set, vtuple_zero, rens_append, lows_append, sgOf_zero, sgOf_succ, rens, V.ren, lows, V.low, rens_u8, rens_u32, rens_u64, rens_i64, rens_str, lows_u8, lows_u32, lows_u64, lows_i64, lows_str, allSome, allRw, blksOk_nil, blksOk_none, blksOk_some, getH_zero, getH_succ, getH_nil]
      · simp [pwS, prI, -List.map_map, -List.map_set, vtuple_zero, rens_append, lows_append, sgOf_zero, sgOf_succ, rens, V.ren, lows, V.low, rens_u8, rens_u32, rens_u64, rens_i64, rens_str, lows_u8, lows_u32, lows_u64, lows_i64, lows_str, allSome, allRw, blksOk_nil, blksOk_none, blksOk_some, getH_zero, getH_succ, getH_nil]
    · simp only [go_sem, ↓reduceIte, Nat.reduceEqDiff, Nat.reduceLT, Nat.reduceLeDiff, Nat.reduceAdd, Nat.reduceSub, Nat.reduceMul, Nat.reduceMod, Nat.reduceDiv, Int.reduceLE, Int.reduceLT, Int.reduceToNat, Int.reduceAdd, Int.reduceSub, Int.reduceMul, Int.reduceEq, Int.reduceNeg, BitVec.reduceOfInt, BitVec.reduceToNat, BitVec.reduceEq, BitVec.reduceNe, BitVec.reduceLT, reduceCtorEq, List.forall_mem_nil, h0', hl, List.take_of_length_le]
      refine ⟨by omega, ?_⟩
      refine goCall_pure0 (RMul_spec _ _) ?_
      simp only [go_sem, ↓reduceIte, Nat.reduceEqDiff, Nat.reduceLT, Nat.reduceLeDiff, Nat.reduceAdd, Nat.reduceSub, Nat.reduceMul, Nat.reduceMod, Nat.reduceDiv, Int.reduceLE, Int.reduceLT, Int.reduceToNat, Int.reduceAdd, Int.reduceSub, Int.reduceMul, Int.reduceEq, Int.reduceNeg, BitVec.reduceOfInt, BitVec.reduceToNat, BitVec.reduceEq, BitVec.reduceNe, BitVec.reduceLT, reduceCtorEq, List.forall_mem_nil, ← hn, ← hs, hl, hw1]
      refine again_ren (j - 1) ⟨[(1, .slice 0 0 256 1), (2, .slice 1 0 (i + 1) 1), (3, .u8 (prI (i + 1))), (7, .i64 (i + 1 : Nat))], [some ⟨false, (List.replicate 256 0#8).map .u8⟩, some ⟨false, (pwS (i + 1)).map .u8⟩]⟩ [0, 3] (by omega) rfl (by simp) rfl (by decide) ?_ ?_ ⟨i + 1, by omega, .inr ⟨by omega, rfl⟩⟩
      · simp [slotsOk, St.get, lookS, -List.map_map, -List.map_set, vtuple_zero, rens_append, lows_append, sgOf_zero, sgOf_succ, rens, V.ren, lows, V.low, rens_u8, rens_u32, rens_u64, rens_i64, rens_str, lows_u8, lows_u32, lows_u64, lows_i64, lows_str, allSome, allRw, blksOk_nil, blksOk_none, blksOk_some, getH_zero, getH_succ, getH_nil]
      · simp [-List.map_map, -List.map_set, vtuple_zero, rens_append, lows_append, sgOf_zero, sgOf_succ, rens, V.ren, lows, V.low, rens_u8, rens_u32, rens_u64, rens_i64, rens_str, lows_u8, lows_u32, lows_u64, lows_i64, lows_str, allSome, allRw, blksOk_nil, blksOk_none, blksOk_some, getH_zero, getH_succ, getH_nil]
  · obtain rfl : i = 255 := by omega
    have h0' : ¬ ((255 : Nat) : Int) < 255 := by omega
    rcases hcase with ⟨h, _⟩ | ⟨_, rfl⟩
    · omega
    · have hl := pwS_length 255
      have hg := pwS_getD 255
      simp only [go_sem, ↓reduceIte, Nat.reduceEqDiff, Nat.reduceLT, Nat.reduceLeDiff, Nat.reduceAdd, Nat.reduceSub, Nat.reduceMul, Nat.reduceMod, Nat.reduceDiv, Int.reduceLE, Int.reduceLT, Int.reduceToNat, Int.reduceAdd, Int.reduceSub, Int.reduceMul, Int.reduceEq, Int.reduceNeg, BitVec.reduceOfInt, BitVec.reduceToNat, BitVec.reduceEq, BitVec.reduceNe, BitVec.reduceLT, reduceCtorEq, List.forall_mem_nil, h0']
      refine goCall_pure0 (affine_spec _) ?_
      simp only [go_sem, ↓reduceIte, Nat.reduceEqDiff, Nat.reduceLT, Nat.reduceLeDiff, Nat.reduceAdd, Nat.reduceSub, Nat.reduceMul, Nat.reduceMod, Nat.reduceDiv, Int.reduceLE, Int.reduceLT, Int.reduceToNat, Int.reduceAdd, Int.reduceSub, Int.reduceMul, Int.reduceEq, Int.reduceNeg, BitVec.reduceOfInt, BitVec.reduceToNat, BitVec.reduceEq, BitVec.reduceNe, BitVec.reduceLT, reduceCtorEq, List.forall_mem_nil, hz]
      have ho0 : (List.replicate 256 0#8).set 0 (aff 0#8) = outS 0 := rfl
      simp only [ho0]
      refine go_loop (fun jq st => ∃ q : Nat, q + jq = 255 ∧ st = ⟨[(1, .slice 0 0 256 1), (2, .slice 1 0 255 1), (19, .slice 1 0 255 1), (20, .i64 255), (21, .i64 q)], [some ⟨false, (outS q).map .u8⟩, some ⟨false, (pwS 255).map .u8⟩]⟩) ?_ ?_
      · exact start_mk (255) ⟨[(1, .slice 0 0 256 1), (2, .slice 1 0 255 1), (19, .slice 1 0 255 1), (20, .i64 255), (21, .i64 (0 : Nat))], [some ⟨false, (outS (0 : Nat)).map .u8⟩, some ⟨false, (pwS 255).map .u8⟩]⟩ (by simp [St.get, lookS, -List.map_set, -List.map_map]) rfl (fun _ _ h => h) ⟨0, by omega, rfl⟩
      rintro jq st ⟨q, hq, rfl⟩ _
      simp only [go_sem, ↓reduceIte, Nat.reduceEqDiff, Nat.reduceLT, Nat.reduceLeDiff, Nat.reduceAdd, Nat.reduceSub, Nat.reduceMul, Nat.reduceMod, Nat.reduceDiv, Int.reduceLE, Int.reduceLT, Int.reduceToNat, Int.reduceAdd, Int.reduceSub, Int.reduceMul, Int.reduceEq, Int.reduceNeg, BitVec.reduceOfInt, BitVec.reduceToNat, BitVec.reduceEq, BitVec.reduceNe, BitVec.reduceLT, reduceCtorEq, List.forall_mem_nil]
      have hol := outS_length q
      by_cases hq0 : q < 255
      · have hq0' : (q : Int) < 255 := by omega
        have e1 : w64 (255 - (q : Int)) = ((255 - q : Nat) : Int) := by rw [w64_of (by omega) (by omega)]; omega
        have e2 : ((255 - q : Nat) : Int).tmod 255 = (((255 - q) % 255 : Nat) : Int) := rfl
        have g1 := hg q hq0 (by omega)
        have g2 := hg ((255 - q) % 255) (by omega) (by omega)
        have k1 : q < (pwS 255).length := by omega
        have k2 : (255 - q) % 255 < (pwS 255).length := by omega
        have k3 : (((255 - q) % 255 : Nat) : Int) < 255 := by omega
        have k4 : (255 - q) % 255 < 255 := by omega
        have z1 : (0 : Int) ≤ (((255 - q) % 255 : Nat) : Int) := by omega
        have hlt := (pow3 q).isLt
        have hlt' : ((pow3 q).toNat : Int) < 256 := by omega
        have z2 : (0 : Int) ≤ ((pow3 q).toNat : Int) := by omega
        have hst : (outS q).set (pow3 q).toNat (aff (pow3 ((255 - q) % 255))) = outS (q + 1) := rfl
        have hlt2 : (pow3 q).toNat < 256 := hlt
        simp only [go_sem, ↓reduceIte, Nat.reduceEqDiff, Nat.reduceLT, Nat.reduceLeDiff, Nat.reduceAdd, Nat.reduceSub, Nat.reduceMul, Nat.reduceMod, Nat.reduceDiv, Int.reduceLE, Int.reduceLT, Int.reduceToNat, Int.reduceAdd, Int.reduceSub, Int.reduceMul, Int.reduceEq, Int.reduceNeg, BitVec.reduceOfInt, BitVec.reduceToNat, BitVec.reduceEq, BitVec.reduceNe, BitVec.reduceLT, reduceCtorEq, List.forall_mem_nil, hq0', hq0, hl, getD_u8 k1, g1, e1, e2, k3, k4, z1, getD_u8 k2, g2]
        refine ⟨by omega, ?_⟩
        refine goCall_pure0 (affine_spec _) ?_
        simp only [go_sem, ↓reduceIte, Nat.reduceEqDiff, Nat.reduceLT, Nat.reduceLeDiff, Nat.reduceAdd, Nat.reduceSub, Nat.reduceMul, Nat.reduceMod, Nat.reduceDiv, Int.reduceLE, Int.reduceLT, Int.reduceToNat, Int.reduceAdd, Int.reduceSub, Int.reduceMul, Int.reduceEq, Int.reduceNeg, BitVec.reduceOfInt, BitVec.reduceToNat, BitVec.reduceEq, BitVec.reduceNe, BitVec.reduceLT, reduceCtorEq, List.forall_mem_nil, hst, hol, hlt2, hlt', z2]
        refine ⟨by omega, ?_⟩
        refine again_mk (jq - 1) ⟨[(1, .slice 0 0 256 1), (2, .slice 1 0 255 1), (19, .slice 1 0 255 1), (20, .i64 255), (21, .i64 (q + 1 : Nat))], [some ⟨false, (outS (q + 1 : Nat)).map .u8⟩, some ⟨false, (pwS 255).map .u8⟩]⟩ (by omega) ?_ rfl (fun _ _ h => h) ⟨q + 1, by omega, rfl⟩
        have hw1 : w64 ((q : Int) + 1) = ((q + 1 : Nat) : Int) := by rw [w64_of (by omega) (by omega)]; omega
        simp [St.get, lookS, hw1, -List.map_set, -List.map_map, List.length_nil]
      · obtain rfl : q = 255 := by omega
        have hq0' : ¬ ((255 : Nat) : Int) < 255 := by omega
        simp only [go_sem, ↓reduceIte, Nat.reduceEqDiff, Nat.reduceLT, Nat.reduceLeDiff, Nat.reduceAdd, Nat.reduceSub, Nat.reduceMul, Nat.reduceMod, Nat.reduceDiv, Int.reduceLE, Int.reduceLT, Int.reduceToNat, Int.reduceAdd, Int.reduceSub, Int.reduceMul, Int.reduceEq, Int.reduceNeg, BitVec.reduceOfInt, BitVec.reduceToNat, BitVec.reduceEq, BitVec.reduceNe, BitVec.reduceLT, reduceCtorEq, List.forall_mem_nil, hq0']
        exact Fin.ren [0] (by simp) (by simp) (by rfl) (by decide) (by simp [-List.map_map, -List.map_set, vtuple_zero, rens_append, lows_append, sgOf_zero, sgOf_succ, rens, V.ren, lows, V.low, rens_u8, rens_u32, rens_u64, rens_i64, rens_str, lows_u8, lows_u32, lows_u64, lows_i64, lows_str, allSome, allRw, blksOk_nil, blksOk_none, blksOk_some, getH_zero, getH_succ, getH_nil]) (by simp [-List.map_map, -List.map_set, vtuple_zero, rens_append, lows_append, sgOf_zero, sgOf_succ, rens, V.ren, lows, V.low, rens_u8, rens_u32, rens_u64, rens_i64, rens_str, lows_u8, lows_u32, lows_u64, lows_i64, lows_str, allSome, allRw, blksOk_nil, blksOk_none, blksOk_some, getH_zero, getH_succ, getH_nil])
def subAll (s : List (BitVec 8)) : List (BitVec 8) := s.map subC
theorem chr_byte (b : BitVec 8) : BitVec.ofInt 8 (b.toNat : Int) = b := by
  rw [BitVec.ofInt_natCast]; simp
theorem subbed_spec (s : List (BitVec 8)) (m : Nat) (ws : List (List (BitVec 8))) (hs : s.length ≤ 1000) : Spec0 Try.prog 88 [.agg [.slice 0 0 256 1, .slice 1 0 m 1], .str s] [some ⟨false, (outS 255).map .u8⟩, some ⟨false, ws.map .str⟩] (.str (subAll s)) [some ⟨false, (outS 255).map .u8⟩, some ⟨false, ws.map .str⟩] := by
  have hol := outS_length 255
  have hS := S_sub
  generalize outS 255 = T at *
  refine spec0_of_vc (by kernel_rfl) (fn := Try.f88) Try.func88 rfl (by show 2 ≤ 25; decide) (go_start ?_)
  simp only [go_sem, ↓reduceIte, Nat.reduceEqDiff, Nat.reduceLT, Nat.reduceLeDiff, Nat.reduceAdd, Nat.reduceSub, Nat.reduceMul, Nat.reduceMod, Nat.reduceDiv, Int.reduceLE, Int.reduceLT, Int.reduceToNat, Int.reduceAdd, Int.reduceSub, Int.reduceMul, Int.reduceEq, Int.reduceNeg, BitVec.reduceOfInt, BitVec.reduceToNat, BitVec.reduceEq, BitVec.reduceNe, BitVec.reduceLT, reduceCtorEq, List.forall_mem_nil, Try.ntmps88, Try.results88]
  refine go_loop (fun ji st => ∃ i : Nat, i + ji = s.length ∧ st = ⟨[(1, .str s), (2, .ptr 2 0), (5, .str (subAll (s.take i))), (8, .i64 s.length), (9, .i64 i)], [some ⟨false, T.map .u8⟩, some ⟨false, ws.map .str⟩, some ⟨false, [.slice 0 0 256 1, .slice 1 0 m 1]⟩]⟩) ?_ ?_
  · exact start_mk (s.length) ⟨[(1, .str s), (2, .ptr 2 0), (5, .str (subAll (s.take (0 : Nat)))), (8, .i64 s.length), (9, .i64 (0 : Nat))], [some ⟨false, T.map .u8⟩, some ⟨false, ws.map .str⟩, some ⟨false, [.slice 0 0 256 1, .slice 1 0 m 1]⟩]⟩ (by simp [St.get, lookS, -List.map_set, -List.map_map, subAll]) rfl (fun _ _ h => h) ⟨0, by omega, rfl⟩
  rintro ji st ⟨i, hi, rfl⟩ _
  simp only [go_sem, ↓reduceIte, Nat.reduceEqDiff, Nat.reduceLT, Nat.reduceLeDiff, Nat.reduceAdd, Nat.reduceSub, Nat.reduceMul, Nat.reduceMod, Nat.reduceDiv, Int.reduceLE, Int.reduceLT, Int.reduceToNat, Int.reduceAdd, Int.reduceSub, Int.reduceMul, Int.reduceEq, Int.reduceNeg, BitVec.reduceOfInt, BitVec.reduceToNat, BitVec.reduceEq, BitVec.reduceNe, BitVec.reduceLT, reduceCtorEq, List.forall_mem_nil]
  by_cases h0 : i < s.length
  · have h0' : (i : Int) < (s.length : Int) := by omega
    have hlt := (s.getD i 0).isLt
    have hlt' : ((s.getD i 0).toNat : Int) < 256 := by omega
    have z1 : (0 : Int) ≤ ((s.getD i 0).toNat : Int) := by omega
    have k1 : (s.getD i 0).toNat < T.length := by omega
    have hg := hS (s.getD i 0)
    have hc := chr_spec ((subC (s.getD i 0)).toNat : Int)
    rw [chr_byte] at hc
    have hap : subAll (s.take i) ++ [subC (s.getD i 0)] = subAll (s.take (i + 1)) := by unfold subAll; rw [take_snoc h0, List.map_append]; rfl
    have hll : (subAll (s.take i)).length ≤ 1000 := by unfold subAll; rw [List.length_map, List.length_take]; omega
    have zi : (0 : Int) ≤ (i : Int) := by omega
    simp only [go_sem, ↓reduceIte, Nat.reduceEqDiff, Nat.reduceLT, Nat.reduceLeDiff, Nat.reduceAdd, Nat.reduceSub, Nat.reduceMul, Nat.reduceMod, Nat.reduceDiv, Int.reduceLE, Int.reduceLT, Int.reduceToNat, Int.reduceAdd, Int.reduceSub, Int.reduceMul, Int.reduceEq, Int.reduceNeg, BitVec.reduceOfInt, BitVec.reduceToNat, BitVec.reduceEq, BitVec.reduceNe, BitVec.reduceLT, reduceCtorEq, List.forall_mem_nil, h0', h0, hlt', z1, zi, hol, getD_u8 k1, hg]
    refine ⟨by omega, ?_⟩
    refine goCallD_pure0 (hc) ?_
    simp only [go_sem, ↓reduceIte, Nat.reduceEqDiff, Nat.reduceLT, Nat.reduceLeDiff, Nat.reduceAdd, Nat.reduceSub, Nat.reduceMul, Nat.reduceMod, Nat.reduceDiv, Int.reduceLE, Int.reduceLT, Int.reduceToNat, Int.reduceAdd, Int.reduceSub, Int.reduceMul, Int.reduceEq, Int.reduceNeg, BitVec.reduceOfInt, BitVec.reduceToNat, BitVec.reduceEq, BitVec.reduceNe, BitVec.reduceLT, reduceCtorEq, List.forall_mem_nil, hap]
    refine ⟨by omega, by kernel_rfl, ?_⟩
    refine again_mk (ji - 1) ⟨[(1, .str s), (2, .ptr 2 0), (5, .str (subAll (s.take (i + 1 : Nat)))), (8, .i64 s.length), (9, .i64 (i + 1 : Nat))], [some ⟨false, T.map .u8⟩, some ⟨false, ws.map .str⟩, some ⟨false, [.slice 0 0 256 1, .slice 1 0 m 1]⟩]⟩ (by omega) ?_ rfl (fun _ _ h => h) ⟨i + 1, by omega, rfl⟩
    have hw1 : w64 ((i : Int) + 1) = ((i + 1 : Nat) : Int) := by rw [w64_of (by omega) (by omega)]; omega
    simp [St.get, lookS, hw1, -List.map_set, -List.map_map, List.length_nil]
  · obtain rfl : i = s.length := by omega
    have h0' : ¬ (s.length : Int) < (s.length : Int) := by omega
    have ht : s.take s.length = s := List.take_length
    simp only [go_sem, ↓reduceIte, Nat.reduceEqDiff, Nat.reduceLT, Nat.reduceLeDiff, Nat.reduceAdd, Nat.reduceSub, Nat.reduceMul, Nat.reduceMod, Nat.reduceDiv, Int.reduceLE, Int.reduceLT, Int.reduceToNat, Int.reduceAdd, Int.reduceSub, Int.reduceMul, Int.reduceEq, Int.reduceNeg, BitVec.reduceOfInt, BitVec.reduceToNat, BitVec.reduceEq, BitVec.reduceNe, BitVec.reduceLT, reduceCtorEq, List.forall_mem_nil, h0', ht]
    exact Fin.ren [0, 1] (by simp) (by simp) (by rfl) (by decide) (by simp [-List.map_map, -List.map_set, vtuple_zero, rens_append, lows_append, sgOf_zero, sgOf_succ, rens, V.ren, lows, V.low, rens_u8, rens_u32, rens_u64, rens_i64, rens_str, lows_u8, lows_u32, lows_u64, lows_i64, lows_str, allSome, allRw, blksOk_nil, blksOk_none, blksOk_some, getH_zero, getH_succ, getH_nil]) (by simp [-List.map_map, -List.map_set, vtuple_zero, rens_append, lows_append, sgOf_zero, sgOf_succ, rens, V.ren, lows, V.low, rens_u8, rens_u32, rens_u64, rens_i64, rens_str, lows_u8, lows_u32, lows_u64, lows_i64, lows_str, allSome, allRw, blksOk_nil, blksOk_none, blksOk_some, getH_zero, getH_succ, getH_nil])
end Go.Vm
end
section
namespace Go.Vm
open Go.Proofs
set_option maxRecDepth 20000
def p2 : Nat → BitVec 8
  | 0 => 1#8
  | k + 1 => gmul (p2 k) 2#8
/-- What a word becomes ahead of being xored. -/
def gW (n i : Nat) (w : List (BitVec 8)) : List (BitVec 8) := if i % n = 0 then xorB (subAll (w.drop 1 ++ w.take 1)) (p2 (i / n - 1) :: List.replicate 3 0#8) else if n = 8 ∧ i % 8 = 4 then subAll w else w
/-- The first i words. -/
def wl (key : List (BitVec 8)) (n : Nat) : Nat → List (List (BitVec 8))
  | 0 => []
  | i + 1 => if i < n then wl key n i ++ [(key.drop (4 * i)).take 4] else wl key n i ++ [xorB ((wl key n i).getD (i - n) []) (gW n i ((wl key n i).getD (i - 1) []))]
theorem wl_length (key : List (BitVec 8)) (n i : Nat) : (wl key n i).length = i := by
  induction i with
  | zero => rfl
  | succ i ih => rw [wl]; split <;> (rw [List.length_append, ih]; rfl)
theorem subAll_length (s : List (BitVec 8)) : (subAll s).length = s.length := by unfold subAll; rw [List.length_map]
theorem gW_length (n i : Nat) (w : List (BitVec 8)) (h : w.length = 4) : (gW n i w).length = 4 := by
  unfold gW
  split
  · rw [xorB_length, subAll_length, List.length_append, List.length_drop, List.length_take, h]; rfl
  · split
    · rw [subAll_length, h]
    · exact h
theorem getD_memL {l : List (List (BitVec 8))} {i : Nat} (h : i < l.length) : l.getD i [] ∈ l := by
  rw [List.getD_eq_getElem?_getD, List.getElem?_eq_getElem h]; exact List.getElem_mem h
theorem wl_four (key : List (BitVec 8)) (n : Nat) (hn : 0 < n) (hk : key.length = 4 * n) (i : Nat) : ∀ w ∈ wl key n i, w.length = 4 := by
  induction i with
  | zero => intro w h; simp [wl] at h
  | succ i ih =>
    intro w hw
    have hl := wl_length key n i
    rw [wl] at hw
    split at hw
    · rcases List.mem_append.1 hw with h | h
      · exact ih w h
      · rw [List.mem_singleton.1 h, List.length_take, List.length_drop]; omega
    · rcases List.mem_append.1 hw with h | h
      · exact ih w h
      · rw [List.mem_singleton.1 h, xorB_length, gW_length _ _ _ (ih _ (getD_memL (by omega))), ih _ (getD_memL (by omega))]; rfl
theorem AesOf_bad (key : List (BitVec 8)) (h : ¬ (key.length = 16 ∨ key.length = 32)) : Spec0 Try.prog 56 [.str key] [] (.tup [.agg [.nilSlice, .nilSlice], .bool false]) [] := by
  have h1 : ¬ (key.length : Int) = 16 := by omega
  have h2 : ¬ (key.length : Int) = 32 := by omega
  refine spec0_of_vc (by kernel_rfl) (fn := Try.f56) Try.func56 rfl (by show 1 ≤ 102; decide) (go_start ?_)
  simp only [go_sem, ↓reduceIte, Nat.reduceEqDiff, Nat.reduceLT, Nat.reduceLeDiff, Nat.reduceAdd, Nat.reduceSub, Nat.reduceMul, Nat.reduceMod, Nat.reduceDiv, Int.reduceLE, Int.reduceLT, Int.reduceToNat, Int.reduceAdd, Int.reduceSub, Int.reduceMul, Int.reduceEq, Int.reduceNeg, BitVec.reduceOfInt, BitVec.reduceToNat, BitVec.reduceEq, BitVec.reduceNe, BitVec.reduceLT, reduceCtorEq, List.forall_mem_nil, Try.ntmps56, Try.results56, h1, h2]
  exact Fin.ren [] (by simp) (by simp) (by rfl) (by decide) (by simp [-List.map_map, -List.map_set, vtuple_zero, rens_append, lows_append, sgOf_zero, sgOf_succ, rens, V.ren, lows, V.low, rens_u8, rens_u32, rens_u64, rens_i64, rens_str, lows_u8, lows_u32, lows_u64, lows_i64, lows_str, allSome, allRw, blksOk_nil, blksOk_none, blksOk_some, getH_zero, getH_succ, getH_nil]) (by simp [-List.map_map, -List.map_set, vtuple_zero, rens_append, lows_append, sgOf_zero, sgOf_succ, rens, V.ren, lows, V.low, rens_u8, rens_u32, rens_u64, rens_i64, rens_str, lows_u8, lows_u32, lows_u64, lows_i64, lows_str, allSome, allRw, blksOk_nil, blksOk_none, blksOk_some, getH_zero, getH_succ, getH_nil])
set_option maxHeartbeats 4000000 in
theorem AesOf_spec (key : List (BitVec 8)) (n : Nat) (hn : n = 4 ∨ n = 8) (hk : key.length = 4 * n) : Spec0 Try.prog 56 [.str key] [] (.tup [.agg [.slice 0 0 256 1, .slice 1 0 (4 * (n + 7)) 1], .bool true]) [some ⟨false, (outS 255).map .u8⟩, some ⟨false, (wl key n (4 * (n + 7))).map .str⟩] := by
  have e0 : w64 ((key.length : Int).tdiv 4) = (n : Int) := by rw [show (4 : Int) = ((4 : Nat) : Int) from rfl, tdiv_nat, w64_of (by omega) (by omega)]; omega
  have e1 : w64 ((n : Int) + 7) = ((n + 7 : Nat) : Int) := by rw [w64_of (by omega) (by omega)]; omega
  have e2 : w64 (4 * ((n + 7 : Nat) : Int)) = ((4 * (n + 7) : Nat) : Int) := by rw [w64_of (by omega) (by omega)]; omega
  generalize hN : 4 * (n + 7) = N at *
  have hks : key.length ≤ 1000 := by omega
  by_cases h16 : (key.length : Int) = 16
  · refine spec0_of_vc (by kernel_rfl) (fn := Try.f56) Try.func56 rfl (by show 1 ≤ 102; decide) (go_start ?_)
    simp only [go_sem, ↓reduceIte, Nat.reduceEqDiff, Nat.reduceLT, Nat.reduceLeDiff, Nat.reduceAdd, Nat.reduceSub, Nat.reduceMul, Nat.reduceMod, Nat.reduceDiv, Int.reduceLE, Int.reduceLT, Int.reduceToNat, Int.reduceAdd, Int.reduceSub, Int.reduceMul, Int.reduceEq, Int.reduceNeg, BitVec.reduceOfInt, BitVec.reduceToNat, BitVec.reduceEq, BitVec.reduceNe, BitVec.reduceLT, reduceCtorEq, List.forall_mem_nil, Try.ntmps56, Try.results56, h16]
    refine goCall_mem [] (subs_spec) (by kernel_rfl) (by simp [-List.map_map, -List.map_set, vtuple_zero, rens_append, lows_append, sgOf_zero, sgOf_succ, rens, V.ren, lows, V.low, rens_u8, rens_u32, rens_u64, rens_i64, rens_str, lows_u8, lows_u32, lows_u64, lows_i64, lows_str, allSome, allRw, blksOk_nil, blksOk_none, blksOk_some, getH_zero, getH_succ, getH_nil]) rfl (by simp [-List.map_map, -List.map_set, vtuple_zero, rens_append, lows_append, sgOf_zero, sgOf_succ, rens, V.ren, lows, V.low, rens_u8, rens_u32, rens_u64, rens_i64, rens_str, lows_u8, lows_u32, lows_u64, lows_i64, lows_str, allSome, allRw, blksOk_nil, blksOk_none, blksOk_some, getH_zero, getH_succ, getH_nil]) (by decide) (by simp [-List.map_map, -List.map_set, vtuple_zero, rens_append, lows_append, sgOf_zero, sgOf_succ, rens, V.ren, lows, V.low, rens_u8, rens_u32, rens_u64, rens_i64, rens_str, lows_u8, lows_u32, lows_u64, lows_i64, lows_str, allSome, allRw, blksOk_nil, blksOk_none, blksOk_some, getH_zero, getH_succ, getH_nil]) (by simp [-List.map_map, -List.map_set, vtuple_zero, rens_append, lows_append, sgOf_zero, sgOf_succ, rens, V.ren, lows, V.low, rens_u8, rens_u32, rens_u64, rens_i64, rens_str, lows_u8, lows_u32, lows_u64, lows_i64, lows_str, allSome, allRw, blksOk_nil, blksOk_none, blksOk_some, getH_zero, getH_succ, getH_nil]) (by simp [-List.map_map, -List.map_set, vtuple_zero, rens_append, lows_append, sgOf_zero, sgOf_succ, rens, V.ren, lows, V.low, rens_u8, rens_u32, rens_u64, rens_i64, rens_str, lows_u8, lows_u32, lows_u64, lows_i64, lows_str, allSome, allRw, blksOk_nil, blksOk_none, blksOk_some, getH_zero, getH_succ, getH_nil]) (by simp [-List.map_map, -List.map_set, vtuple_zero, rens_append, lows_append, sgOf_zero, sgOf_succ, rens, V.ren, lows, V.low, rens_u8, rens_u32, rens_u64, rens_i64, rens_str, lows_u8, lows_u32, lows_u64, lows_i64, lows_str, allSome, allRw, blksOk_nil, blksOk_none, blksOk_some, getH_zero, getH_succ, getH_nil]) (by simp) ?_
    simp only [go_sem, ↓reduceIte, Nat.reduceEqDiff, Nat.reduceLT, Nat.reduceLeDiff, Nat.reduceAdd, Nat.reduceSub, Nat.reduceMul, Nat.reduceMod, Nat.reduceDiv, Int.reduceLE, Int.reduceLT, Int.reduceToNat, Int.reduceAdd, Int.reduceSub, Int.reduceMul, Int.reduceEq, Int.reduceNeg, BitVec.reduceOfInt, BitVec.reduceToNat, BitVec.reduceEq, BitVec.reduceNe, BitVec.reduceLT, reduceCtorEq, List.forall_mem_nil, e0, e1, e2]
    have hsub := subbed_spec
    generalize outS 255 = T at *
    refine go_loop (fun j st => ∃ i : Nat, i + j = N ∧ ((i = 0 ∧ st = ⟨[(0, .str key), (2, .ptr 0 0), (4, .ptr 2 0), (5, .i64 n), (25, .i64 N), (26, .i64 (0 : Nat))], [some ⟨false, [.nilSlice, .nilSlice]⟩, some ⟨false, T.map .u8⟩, some ⟨false, [.slice 1 0 256 1, .nilSlice]⟩]⟩) ∨ (0 < i ∧ st = ⟨[(0, .str key), (2, .ptr 0 0), (4, .ptr 2 0), (5, .i64 n), (25, .i64 N), (26, .i64 i)], [some ⟨false, [.nilSlice, .nilSlice]⟩, some ⟨false, T.map .u8⟩, some ⟨false, [.slice 1 0 256 1, .slice 3 0 i 1]⟩, some ⟨false, (wl key n i).map .str⟩]⟩))) ?_ ?_
    · exact start_mk N ⟨[(0, .str key), (2, .ptr 0 0), (4, .ptr 2 0), (5, .i64 n), (25, .i64 N), (26, .i64 (0 : Nat))], [some ⟨false, [.nilSlice, .nilSlice]⟩, some ⟨false, T.map .u8⟩, some ⟨false, [.slice 1 0 256 1, .nilSlice]⟩]⟩ (by simp [St.get, lookS]) rfl (fun _ _ h => h) ⟨0, by omega, .inl ⟨rfl, rfl⟩⟩
    rintro j st ⟨i, hi, hcase⟩ _
    have hwl := wl_length key n i
    have hw1 : w64 ((i : Int) + 1) = ((i + 1 : Nat) : Int) := by rw [w64_of (by omega) (by omega)]; omega
    by_cases hin : i < n
    · have hin' : (i : Int) < (n : Int) := by omega
      have hiN' : (i : Int) < (N : Int) := by omega
      have hiN : i < N := by omega
      have m1 : w64 (4 * (i : Int)) = ((4 * i : Nat) : Int) := by rw [w64_of (by omega) (by omega)]; omega
      have m2 : w64 (((4 * i : Nat) : Int) + 4) = ((4 * i + 4 : Nat) : Int) := by rw [w64_of (by omega) (by omega)]; omega
      have m3 : (4 * i + 4) - 4 * i = 4 := by omega
      have m4 : (0 : Int) ≤ ((4 * i : Nat) : Int) := by omega
      have m5 : ((4 * i : Nat) : Int) ≤ ((4 * i + 4 : Nat) : Int) := by omega
      have m6 : ((4 * i + 4 : Nat) : Int) ≤ (key.length : Int) := by omega
      have hs : wl key n (i + 1) = wl key n i ++ [(key.drop (4 * i)).take 4] := by rw [wl, if_pos hin]
      have hs' : wl key n i ++ [(key.take (4 * i + 4)).drop (4 * i)] = wl key n (i + 1) := by rw [hs, List.drop_take, m3]
      rcases hcase with ⟨rfl, rfl⟩ | ⟨hi0, rfl⟩
      · have q1 : (0 : Int) < (N : Int) := by omega
        have q2 : (0 : Int) < (n : Int) := by omega
        simp only [go_sem, ↓reduceIte, Nat.reduceEqDiff, Nat.reduceLT, Nat.reduceLeDiff, Nat.reduceAdd, Nat.reduceSub, Nat.reduceMul, Nat.reduceMod, Nat.reduceDiv, Int.reduceLE, Int.reduceLT, Int.reduceToNat, Int.reduceAdd, Int.reduceSub, Int.reduceMul, Int.reduceEq, Int.reduceNeg, BitVec.reduceOfInt, BitVec.reduceToNat, BitVec.reduceEq, BitVec.reduceNe, BitVec.reduceLT, reduceCtorEq, List.forall_mem_nil, q1, q2, hin, hiN]
        refine ⟨by omega, by kernel_rfl, ?_⟩
        refine again_ren (j - 1) ⟨[(0, .str key), (2, .ptr 0 0), (4, .ptr 2 0), (5, .i64 n), (25, .i64 N), (26, .i64 (1 : Nat))], [some ⟨false, [.nilSlice, .nilSlice]⟩, some ⟨false, T.map .u8⟩, some ⟨false, [.slice 1 0 256 1, .slice 3 0 1 1]⟩, some ⟨false, (wl key n 1).map .str⟩]⟩ [0, 1, 2, 4] (by omega) rfl (by simp) rfl (by decide) ?_ ?_ ⟨1, by omega, .inr ⟨by omega, rfl⟩⟩
        · simp [slotsOk, St.get, lookS, w64_of, -List.map_map, -List.map_set, vtuple_zero, rens_append, lows_append, sgOf_zero, sgOf_succ, rens, V.ren, lows, V.low, rens_u8, rens_u32, rens_u64, rens_i64, rens_str, lows_u8, lows_u32, lows_u64, lows_i64, lows_str, allSome, allRw, blksOk_nil, blksOk_none, blksOk_some, getH_zero, getH_succ, getH_nil]
        · simp [wl, hin, -List.map_map, -List.map_set, vtuple_zero, rens_append, lows_append, sgOf_zero, sgOf_succ, rens, V.ren, lows, V.low, rens_u8, rens_u32, rens_u64, rens_i64, rens_str, lows_u8, lows_u32, lows_u64, lows_i64, lows_str, allSome, allRw, blksOk_nil, blksOk_none, blksOk_some, getH_zero, getH_succ, getH_nil]
      · simp only [go_sem, ↓reduceIte, Nat.reduceEqDiff, Nat.reduceLT, Nat.reduceLeDiff, Nat.reduceAdd, Nat.reduceSub, Nat.reduceMul, Nat.reduceMod, Nat.reduceDiv, Int.reduceLE, Int.reduceLT, Int.reduceToNat, Int.reduceAdd, Int.reduceSub, Int.reduceMul, Int.reduceEq, Int.reduceNeg, BitVec.reduceOfInt, BitVec.reduceToNat, BitVec.reduceEq, BitVec.reduceNe, BitVec.reduceLT, reduceCtorEq, List.forall_mem_nil, hin', hin, hiN', hiN, m1, m2, m3, m4, m5, m6, hwl, List.take_of_length_le, ← hs]
        refine ⟨⟨by omega, by omega⟩, by kernel_rfl, ?_⟩
        refine again_ren (j - 1) ⟨[(0, .str key), (2, .ptr 0 0), (4, .ptr 2 0), (5, .i64 n), (25, .i64 N), (26, .i64 (i + 1 : Nat))], [some ⟨false, [.nilSlice, .nilSlice]⟩, some ⟨false, T.map .u8⟩, some ⟨false, [.slice 1 0 256 1, .slice 3 0 (i + 1) 1]⟩, some ⟨false, (wl key n (i + 1)).map .str⟩]⟩ [0, 1, 2, 5] (by omega) rfl (by simp) rfl (by decide) ?_ ?_ ⟨i + 1, by omega, .inr ⟨by omega, rfl⟩⟩
        · simp [slotsOk, St.get, lookS, hw1, -List.map_map, -List.map_set, vtuple_zero, rens_append, lows_append, sgOf_zero, sgOf_succ, rens, V.ren, lows, V.low, rens_u8, rens_u32, rens_u64, rens_i64, rens_str, lows_u8, lows_u32, lows_u64, lows_i64, lows_str, allSome, allRw, blksOk_nil, blksOk_none, blksOk_some, getH_zero, getH_succ, getH_nil]
        · rw [← hs']
          simp [-List.map_map, -List.map_set, vtuple_zero, rens_append, lows_append, sgOf_zero, sgOf_succ, rens, V.ren, lows, V.low, rens_u8, rens_u32, rens_u64, rens_i64, rens_str, lows_u8, lows_u32, lows_u64, lows_i64, lows_str, allSome, allRw, blksOk_nil, blksOk_none, blksOk_some, getH_zero, getH_succ, getH_nil]
    rcases hcase with ⟨rfl, rfl⟩ | ⟨hi0, rfl⟩
    · omega
    by_cases hiN : i < N
    · have hin' : ¬ (i : Int) < (n : Int) := by omega
      have hiN' : (i : Int) < (N : Int) := by omega
      have n0 : ¬ (n : Int) = 0 := by omega
      have z1 : w64 ((i : Int) - 1) = ((i - 1 : Nat) : Int) := by rw [w64_of (by omega) (by omega)]; omega
      have z2 : ((i - 1 : Nat) : Int) < (i : Int) := by omega
      have z3 : i - 1 < i := by omega
      have z4 : (0 : Int) ≤ ((i - 1 : Nat) : Int) := by omega
      have z5 : i - 1 < (wl key n i).length := by omega
      have y1 : w64 ((i : Int) - (n : Int)) = ((i - n : Nat) : Int) := by rw [w64_of (by omega) (by omega)]; omega
      have y2 : ((i - n : Nat) : Int) < (i : Int) := by omega
      have y3 : i - n < i := by omega
      have y4 : (0 : Int) ≤ ((i - n : Nat) : Int) := by omega
      have y5 : i - n < (wl key n i).length := by omega
      have tm : (i : Int).tmod (n : Int) = ((i % n : Nat) : Int) := rfl
      have w1 := wl_four key n (by omega) (by omega) i _ (getD_memL z5)
      have w2 := wl_four key n (by omega) (by omega) i _ (getD_memL y5)
      obtain ⟨l, hle⟩ : ∃ l, l = (wl key n i).getD (i - 1) [] := ⟨_, rfl⟩
      obtain ⟨b, hbe⟩ : ∃ b, b = (wl key n i).getD (i - n) [] := ⟨_, rfl⟩
      rw [← hle] at w1
      rw [← hbe] at w2
      have hs0 : wl key n (i + 1) = wl key n i ++ [xorB b (gW n i l)] := by rw [wl, if_neg hin, ← hle, ← hbe]
      by_cases hm0 : i % n = 0
      · have hm0' : ((i % n : Nat) : Int) = 0 := by omega
        have td : (i : Int).tdiv (n : Int) = ((i / n : Nat) : Int) := rfl
        have hq1 : 1 ≤ i / n := by rcases hn with rfl | rfl <;> omega
        have hq2 : i / n ≤ 100 := by rcases hn with rfl | rfl <;> omega
        have td3 : w64 ((i / n : Nat) : Int) = ((i / n : Nat) : Int) := by rw [w64_of (by omega) (by omega)]
        have td2 : w64 (((i / n : Nat) : Int) - 1) = ((i / n - 1 : Nat) : Int) := by rw [w64_of (by omega) (by omega)]; omega
        simp only [go_sem, ↓reduceIte, Nat.reduceEqDiff, Nat.reduceLT, Nat.reduceLeDiff, Nat.reduceAdd, Nat.reduceSub, Nat.reduceMul, Nat.reduceMod, Nat.reduceDiv, Int.reduceLE, Int.reduceLT, Int.reduceToNat, Int.reduceAdd, Int.reduceSub, Int.reduceMul, Int.reduceEq, Int.reduceNeg, BitVec.reduceOfInt, BitVec.reduceToNat, BitVec.reduceEq, BitVec.reduceNe, BitVec.reduceLT, reduceCtorEq, List.forall_mem_nil, hin', hin, hiN', hiN, hwl, n0, z1, z2, z3, z4, tm, td, hm0', getD_str z5, ← hle, td3, td2]
        refine go_loop (fun jq st => ∃ q : Nat, q + jq = i / n - 1 ∧ st = ⟨[(0, .str key), (2, .ptr 0 0), (4, .ptr 2 0), (5, .i64 n), (6, .i64 i), (7, .str l), (8, .u8 (p2 q)), (25, .i64 N), (26, .i64 i), (57, .i64 (i / n - 1 : Nat)), (58, .i64 q)], [some ⟨false, [.nilSlice, .nilSlice]⟩, some ⟨false, T.map .u8⟩, some ⟨false, [.slice 1 0 256 1, .slice 3 0 i 1]⟩, some ⟨false, (wl key n i).map .str⟩]⟩) ?_ ?_
        · exact start_mk (i / n - 1) ⟨[(0, .str key), (2, .ptr 0 0), (4, .ptr 2 0), (5, .i64 n), (6, .i64 i), (7, .str l), (8, .u8 (p2 (0 : Nat))), (25, .i64 N), (26, .i64 i), (57, .i64 (i / n - 1 : Nat)), (58, .i64 (0 : Nat))], [some ⟨false, [.nilSlice, .nilSlice]⟩, some ⟨false, T.map .u8⟩, some ⟨false, [.slice 1 0 256 1, .slice 3 0 i 1]⟩, some ⟨false, (wl key n i).map .str⟩]⟩ (by simp [St.get, lookS, -List.map_set, -List.map_map, p2]) rfl (fun _ _ h => h) ⟨0, by omega, rfl⟩
        rintro jq st ⟨q, hq, rfl⟩ _
        simp only [go_sem, ↓reduceIte, Nat.reduceEqDiff, Nat.reduceLT, Nat.reduceLeDiff, Nat.reduceAdd, Nat.reduceSub, Nat.reduceMul, Nat.reduceMod, Nat.reduceDiv, Int.reduceLE, Int.reduceLT, Int.reduceToNat, Int.reduceAdd, Int.reduceSub, Int.reduceMul, Int.reduceEq, Int.reduceNeg, BitVec.reduceOfInt, BitVec.reduceToNat, BitVec.reduceEq, BitVec.reduceNe, BitVec.reduceLT, reduceCtorEq, List.forall_mem_nil]
        by_cases hq : q < i / n - 1
        · have hq' : (q : Int) < ((i / n - 1 : Nat) : Int) := by omega
          have hp : p2 (q + 1) = rmul (p2 q) 2#8 := by rw [p2, gmul_rmul]
          simp only [go_sem, ↓reduceIte, Nat.reduceEqDiff, Nat.reduceLT, Nat.reduceLeDiff, Nat.reduceAdd, Nat.reduceSub, Nat.reduceMul, Nat.reduceMod, Nat.reduceDiv, Int.reduceLE, Int.reduceLT, Int.reduceToNat, Int.reduceAdd, Int.reduceSub, Int.reduceMul, Int.reduceEq, Int.reduceNeg, BitVec.reduceOfInt, BitVec.reduceToNat, BitVec.reduceEq, BitVec.reduceNe, BitVec.reduceLT, reduceCtorEq, List.forall_mem_nil, hq', hq]
          refine goCall_pure0 (RMul_spec _ _) ?_
          simp only [go_sem, ↓reduceIte, Nat.reduceEqDiff, Nat.reduceLT, Nat.reduceLeDiff, Nat.reduceAdd, Nat.reduceSub, Nat.reduceMul, Nat.reduceMod, Nat.reduceDiv, Int.reduceLE, Int.reduceLT, Int.reduceToNat, Int.reduceAdd, Int.reduceSub, Int.reduceMul, Int.reduceEq, Int.reduceNeg, BitVec.reduceOfInt, BitVec.reduceToNat, BitVec.reduceEq, BitVec.reduceNe, BitVec.reduceLT, reduceCtorEq, List.forall_mem_nil, ← hp]
          refine again_mk (jq - 1) ⟨[(0, .str key), (2, .ptr 0 0), (4, .ptr 2 0), (5, .i64 n), (6, .i64 i), (7, .str l), (8, .u8 (p2 (q + 1 : Nat))), (25, .i64 N), (26, .i64 i), (57, .i64 (i / n - 1 : Nat)), (58, .i64 (q + 1 : Nat))], [some ⟨false, [.nilSlice, .nilSlice]⟩, some ⟨false, T.map .u8⟩, some ⟨false, [.slice 1 0 256 1, .slice 3 0 i 1]⟩, some ⟨false, (wl key n i).map .str⟩]⟩ (by omega) ?_ rfl (fun _ _ h => h) ⟨q + 1, by omega, rfl⟩
          have hw1 : w64 ((q : Int) + 1) = ((q + 1 : Nat) : Int) := by rw [w64_of (by omega) (by omega)]; omega
          simp [St.get, lookS, hw1, -List.map_set, -List.map_map, List.length_nil]
        · obtain rfl : q = i / n - 1 := by omega
          have hq' : ¬ ((i / n - 1 : Nat) : Int) < ((i / n - 1 : Nat) : Int) := by omega
          have hd : (l.drop 1).length = 3 := by rw [List.length_drop]; omega
          have hlt := (p2 (i / n - 1)).isLt
          have ll1 : (l.drop 1 ++ l.take 1).length ≤ 1000 := by rw [List.length_append, List.length_drop, List.length_take]; omega
          have hc := chr_spec ((p2 (i / n - 1)).toNat : Int)
          rw [chr_byte] at hc
          obtain ⟨r, hr⟩ : ∃ r, r = l.drop 1 ++ l.take 1 := ⟨_, rfl⟩
          have hrl : r.length = 4 := by rw [hr, List.length_append, List.length_drop, List.length_take]; omega
          have hrs : (subAll r).length = 4 := by rw [subAll_length, hrl]
          have hx := RXor_spec (subAll r) (p2 (i / n - 1) :: List.replicate 3 0#8) (by rw [hrs]; exact Nat.le_refl 4) (by omega)
          have hgl := gW_length n i l w1
          have hg : gW n i l = xorB (subAll r) (p2 (i / n - 1) :: List.replicate 3 0#8) := by unfold gW; rw [if_pos hm0, ← hr]
          rw [← hg] at hx
          simp only [go_sem, ↓reduceIte, Nat.reduceEqDiff, Nat.reduceLT, Nat.reduceLeDiff, Nat.reduceAdd, Nat.reduceSub, Nat.reduceMul, Nat.reduceMod, Nat.reduceDiv, Int.reduceLE, Int.reduceLT, Int.reduceToNat, Int.reduceAdd, Int.reduceSub, Int.reduceMul, Int.reduceEq, Int.reduceNeg, BitVec.reduceOfInt, BitVec.reduceToNat, BitVec.reduceEq, BitVec.reduceNe, BitVec.reduceLT, reduceCtorEq, List.forall_mem_nil, hq', w1, ← hr]
          refine ⟨by omega, ?_⟩
          refine goCallD_read [1, 3] (hsub r i (wl key n i) (by omega)) (by kernel_rfl) (by simp [-List.map_map, -List.map_set, vtuple_zero, rens_append, lows_append, sgOf_zero, sgOf_succ, rens, V.ren, lows, V.low, rens_u8, rens_u32, rens_u64, rens_i64, rens_str, lows_u8, lows_u32, lows_u64, lows_i64, lows_str, allSome, allRw, blksOk_nil, blksOk_none, blksOk_some, getH_zero, getH_succ, getH_nil]) rfl (by simp [-List.map_map, -List.map_set, vtuple_zero, rens_append, lows_append, sgOf_zero, sgOf_succ, rens, V.ren, lows, V.low, rens_u8, rens_u32, rens_u64, rens_i64, rens_str, lows_u8, lows_u32, lows_u64, lows_i64, lows_str, allSome, allRw, blksOk_nil, blksOk_none, blksOk_some, getH_zero, getH_succ, getH_nil]) (by decide) (by simp [-List.map_map, -List.map_set, vtuple_zero, rens_append, lows_append, sgOf_zero, sgOf_succ, rens, V.ren, lows, V.low, rens_u8, rens_u32, rens_u64, rens_i64, rens_str, lows_u8, lows_u32, lows_u64, lows_i64, lows_str, allSome, allRw, blksOk_nil, blksOk_none, blksOk_some, getH_zero, getH_succ, getH_nil]) (by simp [-List.map_map, -List.map_set, vtuple_zero, rens_append, lows_append, sgOf_zero, sgOf_succ, rens, V.ren, lows, V.low, rens_u8, rens_u32, rens_u64, rens_i64, rens_str, lows_u8, lows_u32, lows_u64, lows_i64, lows_str, allSome, allRw, blksOk_nil, blksOk_none, blksOk_some, getH_zero, getH_succ, getH_nil]) (by simp [-List.map_map, -List.map_set, vtuple_zero, rens_append, lows_append, sgOf_zero, sgOf_succ, rens, V.ren, lows, V.low, rens_u8, rens_u32, rens_u64, rens_i64, rens_str, lows_u8, lows_u32, lows_u64, lows_i64, lows_str, allSome, allRw, blksOk_nil, blksOk_none, blksOk_some, getH_zero, getH_succ, getH_nil]) (by simp [-List.map_map, -List.map_set, vtuple_zero, rens_append, lows_append, sgOf_zero, sgOf_succ, rens, V.ren, lows, V.low, rens_u8, rens_u32, rens_u64, rens_i64, rens_str, lows_u8, lows_u32, lows_u64, lows_i64, lows_str, allSome, allRw, blksOk_nil, blksOk_none, blksOk_some, getH_zero, getH_succ, getH_nil]) (by simp) (by first | (simp [memRes, oldsOf, sgNew, renO, Blk.ren, List.map_append, -List.map_map, -List.map_set, vtuple_zero, rens_append, lows_append, sgOf_zero, sgOf_succ, rens, V.ren, lows, V.low, rens_u8, rens_u32, rens_u64, rens_i64, rens_str, lows_u8, lows_u32, lows_u64, lows_i64, lows_str, allSome, allRw, blksOk_nil, blksOk_none, blksOk_some, getH_zero, getH_succ, getH_nil]; done) | simp [go_sem, memRes]) ?_
          simp only [go_sem, ↓reduceIte, Nat.reduceEqDiff, Nat.reduceLT, Nat.reduceLeDiff, Nat.reduceAdd, Nat.reduceSub, Nat.reduceMul, Nat.reduceMod, Nat.reduceDiv, Int.reduceLE, Int.reduceLT, Int.reduceToNat, Int.reduceAdd, Int.reduceSub, Int.reduceMul, Int.reduceEq, Int.reduceNeg, BitVec.reduceOfInt, BitVec.reduceToNat, BitVec.reduceEq, BitVec.reduceNe, BitVec.reduceLT, reduceCtorEq, List.forall_mem_nil]
          refine goCallD_pure0 (hc) ?_
          simp only [go_sem, ↓reduceIte, Nat.reduceEqDiff, Nat.reduceLT, Nat.reduceLeDiff, Nat.reduceAdd, Nat.reduceSub, Nat.reduceMul, Nat.reduceMod, Nat.reduceDiv, Int.reduceLE, Int.reduceLT, Int.reduceToNat, Int.reduceAdd, Int.reduceSub, Int.reduceMul, Int.reduceEq, Int.reduceNeg, BitVec.reduceOfInt, BitVec.reduceToNat, BitVec.reduceEq, BitVec.reduceNe, BitVec.reduceLT, reduceCtorEq, List.forall_mem_nil]
          refine goCallD_pure0 (zeros_spec 3 (by decide)) ?_
          simp only [go_sem, ↓reduceIte, Nat.reduceEqDiff, Nat.reduceLT, Nat.reduceLeDiff, Nat.reduceAdd, Nat.reduceSub, Nat.reduceMul, Nat.reduceMod, Nat.reduceDiv, Int.reduceLE, Int.reduceLT, Int.reduceToNat, Int.reduceAdd, Int.reduceSub, Int.reduceMul, Int.reduceEq, Int.reduceNeg, BitVec.reduceOfInt, BitVec.reduceToNat, BitVec.reduceEq, BitVec.reduceNe, BitVec.reduceLT, reduceCtorEq, List.forall_mem_nil]
          refine goCallD_pure0 (hx) ?_
          simp only [go_sem, ↓reduceIte, Nat.reduceEqDiff, Nat.reduceLT, Nat.reduceLeDiff, Nat.reduceAdd, Nat.reduceSub, Nat.reduceMul, Nat.reduceMod, Nat.reduceDiv, Int.reduceLE, Int.reduceLT, Int.reduceToNat, Int.reduceAdd, Int.reduceSub, Int.reduceMul, Int.reduceEq, Int.reduceNeg, BitVec.reduceOfInt, BitVec.reduceToNat, BitVec.reduceEq, BitVec.reduceNe, BitVec.reduceLT, reduceCtorEq, List.forall_mem_nil, hwl, y1, y2, y3, y4, getD_str y5, ← hbe]
          refine ⟨by kernel_rfl, ?_⟩
          refine goCallD_pure0 (RXor_spec b (gW n i l) (by omega) (by omega)) ?_
          simp only [go_sem, ↓reduceIte, Nat.reduceEqDiff, Nat.reduceLT, Nat.reduceLeDiff, Nat.reduceAdd, Nat.reduceSub, Nat.reduceMul, Nat.reduceMod, Nat.reduceDiv, Int.reduceLE, Int.reduceLT, Int.reduceToNat, Int.reduceAdd, Int.reduceSub, Int.reduceMul, Int.reduceEq, Int.reduceNeg, BitVec.reduceOfInt, BitVec.reduceToNat, BitVec.reduceEq, BitVec.reduceNe, BitVec.reduceLT, reduceCtorEq, List.forall_mem_nil, hwl, List.take_of_length_le, ← hs0]
          refine ⟨⟨by omega, by omega⟩, by kernel_rfl, ?_⟩
          refine again_ren (j - 1) ⟨[(0, .str key), (2, .ptr 0 0), (4, .ptr 2 0), (5, .i64 n), (25, .i64 N), (26, .i64 (i + 1 : Nat))], [some ⟨false, [.nilSlice, .nilSlice]⟩, some ⟨false, T.map .u8⟩, some ⟨false, [.slice 1 0 256 1, .slice 3 0 (i + 1) 1]⟩, some ⟨false, (wl key n (i + 1)).map .str⟩]⟩ [0, 1, 2, 5] (by omega) rfl (by simp) rfl (by decide) ?_ ?_ ⟨i + 1, by omega, .inr ⟨by omega, rfl⟩⟩
          · simp [slotsOk, St.get, lookS, hw1, -List.map_map, -List.map_set, vtuple_zero, rens_append, lows_append, sgOf_zero, sgOf_succ, rens, V.ren, lows, V.low, rens_u8, rens_u32, rens_u64, rens_i64, rens_str, lows_u8, lows_u32, lows_u64, lows_i64, lows_str, allSome, allRw, blksOk_nil, blksOk_none, blksOk_some, getH_zero, getH_succ, getH_nil]
          · simp [-List.map_map, -List.map_set, vtuple_zero, rens_append, lows_append, sgOf_zero, sgOf_succ, rens, V.ren, lows, V.low, rens_u8, rens_u32, rens_u64, rens_i64, rens_str, lows_u8, lows_u32, lows_u64, lows_i64, lows_str, allSome, allRw, blksOk_nil, blksOk_none, blksOk_some, getH_zero, getH_succ, getH_nil]
      · have hm0' : ¬ ((i % n : Nat) : Int) = 0 := by omega
        have hgl := gW_length n i l w1
        by_cases hn8 : n = 8
        · have hn8' : ((n : Int) = 8) = True := eq_true (by omega)
          have tm8 : (i : Int).tmod 8 = ((i % 8 : Nat) : Int) := rfl
          by_cases h4 : i % 8 = 4
          · have h4' : ((i % 8 : Nat) : Int) = 4 := by omega
            have hg : gW n i l = subAll l := by unfold gW; rw [if_neg hm0, if_pos ⟨hn8, h4⟩]
            simp only [go_sem, ↓reduceIte, Nat.reduceEqDiff, Nat.reduceLT, Nat.reduceLeDiff, Nat.reduceAdd, Nat.reduceSub, Nat.reduceMul, Nat.reduceMod, Nat.reduceDiv, Int.reduceLE, Int.reduceLT, Int.reduceToNat, Int.reduceAdd, Int.reduceSub, Int.reduceMul, Int.reduceEq, Int.reduceNeg, BitVec.reduceOfInt, BitVec.reduceToNat, BitVec.reduceEq, BitVec.reduceNe, BitVec.reduceLT, reduceCtorEq, List.forall_mem_nil, hin', hin, hiN', hiN, hwl, n0, z1, z2, z3, z4, tm, hm0', getD_str z5, ← hle, hn8', tm8, h4']
            refine goCall_mem [1, 3] (hsub l i (wl key n i) (by omega)) (by kernel_rfl) (by simp [-List.map_map, -List.map_set, vtuple_zero, rens_append, lows_append, sgOf_zero, sgOf_succ, rens, V.ren, lows, V.low, rens_u8, rens_u32, rens_u64, rens_i64, rens_str, lows_u8, lows_u32, lows_u64, lows_i64, lows_str, allSome, allRw, blksOk_nil, blksOk_none, blksOk_some, getH_zero, getH_succ, getH_nil]) rfl (by simp [-List.map_map, -List.map_set, vtuple_zero, rens_append, lows_append, sgOf_zero, sgOf_succ, rens, V.ren, lows, V.low, rens_u8, rens_u32, rens_u64, rens_i64, rens_str, lows_u8, lows_u32, lows_u64, lows_i64, lows_str, allSome, allRw, blksOk_nil, blksOk_none, blksOk_some, getH_zero, getH_succ, getH_nil]) (by decide) (by simp [-List.map_map, -List.map_set, vtuple_zero, rens_append, lows_append, sgOf_zero, sgOf_succ, rens, V.ren, lows, V.low, rens_u8, rens_u32, rens_u64, rens_i64, rens_str, lows_u8, lows_u32, lows_u64, lows_i64, lows_str, allSome, allRw, blksOk_nil, blksOk_none, blksOk_some, getH_zero, getH_succ, getH_nil]) (by simp [-List.map_map, -List.map_set, vtuple_zero, rens_append, lows_append, sgOf_zero, sgOf_succ, rens, V.ren, lows, V.low, rens_u8, rens_u32, rens_u64, rens_i64, rens_str, lows_u8, lows_u32, lows_u64, lows_i64, lows_str, allSome, allRw, blksOk_nil, blksOk_none, blksOk_some, getH_zero, getH_succ, getH_nil]) (by simp [-List.map_map, -List.map_set, vtuple_zero, rens_append, lows_append, sgOf_zero, sgOf_succ, rens, V.ren, lows, V.low, rens_u8, rens_u32, rens_u64, rens_i64, rens_str, lows_u8, lows_u32, lows_u64, lows_i64, lows_str, allSome, allRw, blksOk_nil, blksOk_none, blksOk_some, getH_zero, getH_succ, getH_nil]) (by simp [-List.map_map, -List.map_set, vtuple_zero, rens_append, lows_append, sgOf_zero, sgOf_succ, rens, V.ren, lows, V.low, rens_u8, rens_u32, rens_u64, rens_i64, rens_str, lows_u8, lows_u32, lows_u64, lows_i64, lows_str, allSome, allRw, blksOk_nil, blksOk_none, blksOk_some, getH_zero, getH_succ, getH_nil]) (by simp) ?_
            simp only [go_sem, ↓reduceIte, Nat.reduceEqDiff, Nat.reduceLT, Nat.reduceLeDiff, Nat.reduceAdd, Nat.reduceSub, Nat.reduceMul, Nat.reduceMod, Nat.reduceDiv, Int.reduceLE, Int.reduceLT, Int.reduceToNat, Int.reduceAdd, Int.reduceSub, Int.reduceMul, Int.reduceEq, Int.reduceNeg, BitVec.reduceOfInt, BitVec.reduceToNat, BitVec.reduceEq, BitVec.reduceNe, BitVec.reduceLT, reduceCtorEq, List.forall_mem_nil, memRes, ← hg, hwl, y1, y2, y3, y4, getD_str y5, ← hbe]
            refine goCallD_pure0 (RXor_spec b (gW n i l) (by omega) (by omega)) ?_
            simp only [go_sem, ↓reduceIte, Nat.reduceEqDiff, Nat.reduceLT, Nat.reduceLeDiff, Nat.reduceAdd, Nat.reduceSub, Nat.reduceMul, Nat.reduceMod, Nat.reduceDiv, Int.reduceLE, Int.reduceLT, Int.reduceToNat, Int.reduceAdd, Int.reduceSub, Int.reduceMul, Int.reduceEq, Int.reduceNeg, BitVec.reduceOfInt, BitVec.reduceToNat, BitVec.reduceEq, BitVec.reduceNe, BitVec.reduceLT, reduceCtorEq, List.forall_mem_nil, hwl, List.take_of_length_le, ← hs0]
            refine ⟨⟨by omega, by omega⟩, by kernel_rfl, ?_⟩
            refine again_ren (j - 1) ⟨[(0, .str key), (2, .ptr 0 0), (4, .ptr 2 0), (5, .i64 n), (25, .i64 N), (26, .i64 (i + 1 : Nat))], [some ⟨false, [.nilSlice, .nilSlice]⟩, some ⟨false, T.map .u8⟩, some ⟨false, [.slice 1 0 256 1, .slice 3 0 (i + 1) 1]⟩, some ⟨false, (wl key n (i + 1)).map .str⟩]⟩ [0, 1, 2, 5] (by omega) rfl (by simp) rfl (by decide) ?_ ?_ ⟨i + 1, by omega, .inr ⟨by omega, rfl⟩⟩
            · simp [slotsOk, St.get, lookS, hw1, -List.map_map, -List.map_set, vtuple_zero, rens_append, lows_append, sgOf_zero, sgOf_succ, rens, V.ren, lows, V.low, rens_u8, rens_u32, rens_u64, rens_i64, rens_str, lows_u8, lows_u32, lows_u64, lows_i64, lows_str, allSome, allRw, blksOk_nil, blksOk_none, blksOk_some, getH_zero, getH_succ, getH_nil]
            · simp [-List.map_map, -List.map_set, vtuple_zero, rens_append, lows_append, sgOf_zero, sgOf_succ, rens, V.ren, lows, V.low, rens_u8, rens_u32, rens_u64, rens_i64, rens_str, lows_u8, lows_u32, lows_u64, lows_i64, lows_str, allSome, allRw, blksOk_nil, blksOk_none, blksOk_some, getH_zero, getH_succ, getH_nil]
          · have h4' : ¬ ((i % 8 : Nat) : Int) = 4 := by omega
            have hg : gW n i l = l := by unfold gW; rw [if_neg hm0, if_neg (by omega)]
            simp only [go_sem, ↓reduceIte, Nat.reduceEqDiff, Nat.reduceLT, Nat.reduceLeDiff, Nat.reduceAdd, Nat.reduceSub, Nat.reduceMul, Nat.reduceMod, Nat.reduceDiv, Int.reduceLE, Int.reduceLT, Int.reduceToNat, Int.reduceAdd, Int.reduceSub, Int.reduceMul, Int.reduceEq, Int.reduceNeg, BitVec.reduceOfInt, BitVec.reduceToNat, BitVec.reduceEq, BitVec.reduceNe, BitVec.reduceLT, reduceCtorEq, List.forall_mem_nil, hin', hin, hiN', hiN, hwl, n0, z1, z2, z3, z4, tm, hm0', getD_str z5, ← hle, hn8', tm8, h4', y1, y2, y3, y4, getD_str y5, ← hbe]
            rw [hg] at hs0 hgl
            refine goCallD_pure0 (RXor_spec b l (by omega) (by omega)) ?_
            simp only [go_sem, ↓reduceIte, Nat.reduceEqDiff, Nat.reduceLT, Nat.reduceLeDiff, Nat.reduceAdd, Nat.reduceSub, Nat.reduceMul, Nat.reduceMod, Nat.reduceDiv, Int.reduceLE, Int.reduceLT, Int.reduceToNat, Int.reduceAdd, Int.reduceSub, Int.reduceMul, Int.reduceEq, Int.reduceNeg, BitVec.reduceOfInt, BitVec.reduceToNat, BitVec.reduceEq, BitVec.reduceNe, BitVec.reduceLT, reduceCtorEq, List.forall_mem_nil, hwl, List.take_of_length_le, ← hs0]
            refine ⟨⟨by omega, by omega⟩, by kernel_rfl, ?_⟩
            refine again_ren (j - 1) ⟨[(0, .str key), (2, .ptr 0 0), (4, .ptr 2 0), (5, .i64 n), (25, .i64 N), (26, .i64 (i + 1 : Nat))], [some ⟨false, [.nilSlice, .nilSlice]⟩, some ⟨false, T.map .u8⟩, some ⟨false, [.slice 1 0 256 1, .slice 3 0 (i + 1) 1]⟩, some ⟨false, (wl key n (i + 1)).map .str⟩]⟩ [0, 1, 2, 5] (by omega) rfl (by simp) rfl (by decide) ?_ ?_ ⟨i + 1, by omega, .inr ⟨by omega, rfl⟩⟩
            · simp [slotsOk, St.get, lookS, hw1, -List.map_map, -List.map_set, vtuple_zero, rens_append, lows_append, sgOf_zero, sgOf_succ, rens, V.ren, lows, V.low, rens_u8, rens_u32, rens_u64, rens_i64, rens_str, lows_u8, lows_u32, lows_u64, lows_i64, lows_str, allSome, allRw, blksOk_nil, blksOk_none, blksOk_some, getH_zero, getH_succ, getH_nil]
            · simp [-List.map_map, -List.map_set, vtuple_zero, rens_append, lows_append, sgOf_zero, sgOf_succ, rens, V.ren, lows, V.low, rens_u8, rens_u32, rens_u64, rens_i64, rens_str, lows_u8, lows_u32, lows_u64, lows_i64, lows_str, allSome, allRw, blksOk_nil, blksOk_none, blksOk_some, getH_zero, getH_succ, getH_nil]
        · have hn8' : ¬ (n : Int) = 8 := by omega
          have hg : gW n i l = l := by unfold gW; rw [if_neg hm0, if_neg (by omega)]
          simp only [go_sem, ↓reduceIte, Nat.reduceEqDiff, Nat.reduceLT, Nat.reduceLeDiff, Nat.reduceAdd, Nat.reduceSub, Nat.reduceMul, Nat.reduceMod, Nat.reduceDiv, Int.reduceLE, Int.reduceLT, Int.reduceToNat, Int.reduceAdd, Int.reduceSub, Int.reduceMul, Int.reduceEq, Int.reduceNeg, BitVec.reduceOfInt, BitVec.reduceToNat, BitVec.reduceEq, BitVec.reduceNe, BitVec.reduceLT, reduceCtorEq, List.forall_mem_nil, hin', hin, hiN', hiN, hwl, n0, z1, z2, z3, z4, tm, hm0', getD_str z5, ← hle, hn8', y1, y2, y3, y4, getD_str y5, ← hbe]
          rw [hg] at hs0 hgl
          refine goCallD_pure0 (RXor_spec b l (by omega) (by omega)) ?_
          simp only [go_sem, ↓reduceIte, Nat.reduceEqDiff, Nat.reduceLT, Nat.reduceLeDiff, Nat.reduceAdd, Nat.reduceSub, Nat.reduceMul, Nat.reduceMod, Nat.reduceDiv, Int.reduceLE, Int.reduceLT, Int.reduceToNat, Int.reduceAdd, Int.reduceSub, Int.reduceMul, Int.reduceEq, Int.reduceNeg, BitVec.reduceOfInt, BitVec.reduceToNat, BitVec.reduceEq, BitVec.reduceNe, BitVec.reduceLT, reduceCtorEq, List.forall_mem_nil, hwl, List.take_of_length_le, ← hs0]
          refine ⟨⟨by omega, by omega⟩, by kernel_rfl, ?_⟩
          refine again_ren (j - 1) ⟨[(0, .str key), (2, .ptr 0 0), (4, .ptr 2 0), (5, .i64 n), (25, .i64 N), (26, .i64 (i + 1 : Nat))], [some ⟨false, [.nilSlice, .nilSlice]⟩, some ⟨false, T.map .u8⟩, some ⟨false, [.slice 1 0 256 1, .slice 3 0 (i + 1) 1]⟩, some ⟨false, (wl key n (i + 1)).map .str⟩]⟩ [0, 1, 2, 5] (by omega) rfl (by simp) rfl (by decide) ?_ ?_ ⟨i + 1, by omega, .inr ⟨by omega, rfl⟩⟩
          · simp [slotsOk, St.get, lookS, hw1, -List.map_map, -List.map_set, vtuple_zero, rens_append, lows_append, sgOf_zero, sgOf_succ, rens, V.ren, lows, V.low, rens_u8, rens_u32, rens_u64, rens_i64, rens_str, lows_u8, lows_u32, lows_u64, lows_i64, lows_str, allSome, allRw, blksOk_nil, blksOk_none, blksOk_some, getH_zero, getH_succ, getH_nil]
          · simp [-List.map_map, -List.map_set, vtuple_zero, rens_append, lows_append, sgOf_zero, sgOf_succ, rens, V.ren, lows, V.low, rens_u8, rens_u32, rens_u64, rens_i64, rens_str, lows_u8, lows_u32, lows_u64, lows_i64, lows_str, allSome, allRw, blksOk_nil, blksOk_none, blksOk_some, getH_zero, getH_succ, getH_nil]
    · obtain rfl : i = N := by omega
      have hiN' : ¬ (i : Int) < (i : Int) := by omega
      simp only [go_sem, ↓reduceIte, Nat.reduceEqDiff, Nat.reduceLT, Nat.reduceLeDiff, Nat.reduceAdd, Nat.reduceSub, Nat.reduceMul, Nat.reduceMod, Nat.reduceDiv, Int.reduceLE, Int.reduceLT, Int.reduceToNat, Int.reduceAdd, Int.reduceSub, Int.reduceMul, Int.reduceEq, Int.reduceNeg, BitVec.reduceOfInt, BitVec.reduceToNat, BitVec.reduceEq, BitVec.reduceNe, BitVec.reduceLT, reduceCtorEq, List.forall_mem_nil, hiN']
      exact Fin.ren [1, 3] (by simp) (by simp) (by rfl) (by decide) (by simp [-List.map_map, -List.map_set, vtuple_zero, rens_append, lows_append, sgOf_zero, sgOf_succ, rens, V.ren, lows, V.low, rens_u8, rens_u32, rens_u64, rens_i64, rens_str, lows_u8, lows_u32, lows_u64, lows_i64, lows_str, allSome, allRw, blksOk_nil, blksOk_none, blksOk_some, getH_zero, getH_succ, getH_nil]) (by simp [-List.map_map, -List.map_set, vtuple_zero, rens_append, lows_append, sgOf_zero, sgOf_succ, rens, V.ren, lows, V.low, rens_u8, rens_u32, rens_u64, rens_i64, rens_str, lows_u8, lows_u32, lows_u64, lows_i64, lows_str, allSome, allRw, blksOk_nil, blksOk_none, blksOk_some, getH_zero, getH_succ, getH_nil])
  · have h32 : (key.length : Int) = 32 := by omega
    refine spec0_of_vc (by kernel_rfl) (fn := Try.f56) Try.func56 rfl (by show 1 ≤ 102; decide) (go_start ?_)
    simp only [go_sem, ↓reduceIte, Nat.reduceEqDiff, Nat.reduceLT, Nat.reduceLeDiff, Nat.reduceAdd, Nat.reduceSub, Nat.reduceMul, Nat.reduceMod, Nat.reduceDiv, Int.reduceLE, Int.reduceLT, Int.reduceToNat, Int.reduceAdd, Int.reduceSub, Int.reduceMul, Int.reduceEq, Int.reduceNeg, BitVec.reduceOfInt, BitVec.reduceToNat, BitVec.reduceEq, BitVec.reduceNe, BitVec.reduceLT, reduceCtorEq, List.forall_mem_nil, Try.ntmps56, Try.results56, h16, h32]
    refine goCall_mem [] (subs_spec) (by kernel_rfl) (by simp [-List.map_map, -List.map_set, vtuple_zero, rens_append, lows_append, sgOf_zero, sgOf_succ, rens, V.ren, lows, V.low, rens_u8, rens_u32, rens_u64, rens_i64, rens_str, lows_u8, lows_u32, lows_u64, lows_i64, lows_str, allSome, allRw, blksOk_nil, blksOk_none, blksOk_some, getH_zero, getH_succ, getH_nil]) rfl (by simp [-List.map_map, -List.map_set, vtuple_zero, rens_append, lows_append, sgOf_zero, sgOf_succ, rens, V.ren, lows, V.low, rens_u8, rens_u32, rens_u64, rens_i64, rens_str, lows_u8, lows_u32, lows_u64, lows_i64, lows_str, allSome, allRw, blksOk_nil, blksOk_none, blksOk_some, getH_zero, getH_succ, getH_nil]) (by decide) (by simp [-List.map_map, -List.map_set, vtuple_zero, rens_append, lows_append, sgOf_zero, sgOf_succ, rens, V.ren, lows, V.low, rens_u8, rens_u32, rens_u64, rens_i64, rens_str, lows_u8, lows_u32, lows_u64, lows_i64, lows_str, allSome, allRw, blksOk_nil, blksOk_none, blksOk_some, getH_zero, getH_succ, getH_nil]) (by simp [-List.map_map, -List.map_set, vtuple_zero, rens_append, lows_append, sgOf_zero, sgOf_succ, rens, V.ren, lows, V.low, rens_u8, rens_u32, rens_u64, rens_i64, rens_str, lows_u8, lows_u32, lows_u64, lows_i64, lows_str, allSome, allRw, blksOk_nil, blksOk_none, blksOk_some, getH_zero, getH_succ, getH_nil]) (by simp [-List.map_map, -List.map_set, vtuple_zero, rens_append, lows_append, sgOf_zero, sgOf_succ, rens, V.ren, lows, V.low, rens_u8, rens_u32, rens_u64, rens_i64, rens_str, lows_u8, lows_u32, lows_u64, lows_i64, lows_str, allSome, allRw, blksOk_nil, blksOk_none, blksOk_some, getH_zero, getH_succ, getH_nil]) (by simp [-List.map_map, -List.map_set, vtuple_zero, rens_append, lows_append, sgOf_zero, sgOf_succ, rens, V.ren, lows, V.low, rens_u8, rens_u32, rens_u64, rens_i64, rens_str, lows_u8, lows_u32, lows_u64, lows_i64, lows_str, allSome, allRw, blksOk_nil, blksOk_none, blksOk_some, getH_zero, getH_succ, getH_nil]) (by simp) ?_
    simp only [go_sem, ↓reduceIte, Nat.reduceEqDiff, Nat.reduceLT, Nat.reduceLeDiff, Nat.reduceAdd, Nat.reduceSub, Nat.reduceMul, Nat.reduceMod, Nat.reduceDiv, Int.reduceLE, Int.reduceLT, Int.reduceToNat, Int.reduceAdd, Int.reduceSub, Int.reduceMul, Int.reduceEq, Int.reduceNeg, BitVec.reduceOfInt, BitVec.reduceToNat, BitVec.reduceEq, BitVec.reduceNe, BitVec.reduceLT, reduceCtorEq, List.forall_mem_nil, e0, e1, e2]
    have hsub := subbed_spec
    generalize outS 255 = T at *
    refine go_loop (fun j st => ∃ i : Nat, i + j = N ∧ ((i = 0 ∧ st = ⟨[(0, .str key), (2, .ptr 0 0), (4, .ptr 2 0), (5, .i64 n), (25, .i64 N), (26, .i64 (0 : Nat))], [some ⟨false, [.nilSlice, .nilSlice]⟩, some ⟨false, T.map .u8⟩, some ⟨false, [.slice 1 0 256 1, .nilSlice]⟩]⟩) ∨ (0 < i ∧ st = ⟨[(0, .str key), (2, .ptr 0 0), (4, .ptr 2 0), (5, .i64 n), (25, .i64 N), (26, .i64 i)], [some ⟨false, [.nilSlice, .nilSlice]⟩, some ⟨false, T.map .u8⟩, some ⟨false, [.slice 1 0 256 1, .slice 3 0 i 1]⟩, some ⟨false, (wl key n i).map .str⟩]⟩))) ?_ ?_
    · exact start_mk N ⟨[(0, .str key), (2, .ptr 0 0), (4, .ptr 2 0), (5, .i64 n), (25, .i64 N), (26, .i64 (0 : Nat))], [some ⟨false, [.nilSlice, .nilSlice]⟩, some ⟨false, T.map .u8⟩, some ⟨false, [.slice 1 0 256 1, .nilSlice]⟩]⟩ (by simp [St.get, lookS]) rfl (fun _ _ h => h) ⟨0, by omega, .inl ⟨rfl, rfl⟩⟩
    rintro j st ⟨i, hi, hcase⟩ _
    have hwl := wl_length key n i
    have hw1 : w64 ((i : Int) + 1) = ((i + 1 : Nat) : Int) := by rw [w64_of (by omega) (by omega)]; omega
    by_cases hin : i < n
    · have hin' : (i : Int) < (n : Int) := by omega
      have hiN' : (i : Int) < (N : Int) := by omega
      have hiN : i < N := by omega
      have m1 : w64 (4 * (i : Int)) = ((4 * i : Nat) : Int) := by rw [w64_of (by omega) (by omega)]; omega
      have m2 : w64 (((4 * i : Nat) : Int) + 4) = ((4 * i + 4 : Nat) : Int) := by rw [w64_of (by omega) (by omega)]; omega
      have m3 : (4 * i + 4) - 4 * i = 4 := by omega
      have m4 : (0 : Int) ≤ ((4 * i : Nat) : Int) := by omega
      have m5 : ((4 * i : Nat) : Int) ≤ ((4 * i + 4 : Nat) : Int) := by omega
      have m6 : ((4 * i + 4 : Nat) : Int) ≤ (key.length : Int) := by omega
      have hs : wl key n (i + 1) = wl key n i ++ [(key.drop (4 * i)).take 4] := by rw [wl, if_pos hin]
      have hs' : wl key n i ++ [(key.take (4 * i + 4)).drop (4 * i)] = wl key n (i + 1) := by rw [hs, List.drop_take, m3]
      rcases hcase with ⟨rfl, rfl⟩ | ⟨hi0, rfl⟩
      · have q1 : (0 : Int) < (N : Int) := by omega
        have q2 : (0 : Int) < (n : Int) := by omega
        simp only [go_sem, ↓reduceIte, Nat.reduceEqDiff, Nat.reduceLT, Nat.reduceLeDiff, Nat.reduceAdd, Nat.reduceSub, Nat.reduceMul, Nat.reduceMod, Nat.reduceDiv, Int.reduceLE, Int.reduceLT, Int.reduceToNat, Int.reduceAdd, Int.reduceSub, Int.reduceMul, Int.reduceEq, Int.reduceNeg, BitVec.reduceOfInt, BitVec.reduceToNat, BitVec.reduceEq, BitVec.reduceNe, BitVec.reduceLT, reduceCtorEq, List.forall_mem_nil, q1, q2, hin, hiN]
        refine ⟨by omega, by kernel_rfl, ?_⟩
        refine again_ren (j - 1) ⟨[(0, .str key), (2, .ptr 0 0), (4, .ptr 2 0), (5, .i64 n), (25, .i64 N), (26, .i64 (1 : Nat))], [some ⟨false, [.nilSlice, .nilSlice]⟩, some ⟨false, T.map .u8⟩, some ⟨false, [.slice 1 0 256 1, .slice 3 0 1 1]⟩, some ⟨false, (wl key n 1).map .str⟩]⟩ [0, 1, 2, 4] (by omega) rfl (by simp) rfl (by decide) ?_ ?_ ⟨1, by omega, .inr ⟨by omega, rfl⟩⟩
        · simp [slotsOk, St.get, lookS, w64_of, -List.map_map, -List.map_set, vtuple_zero, rens_append, lows_append, sgOf_zero, sgOf_succ, rens, V.ren, lows, V.low, rens_u8, rens_u32, rens_u64, rens_i64, rens_str, lows_u8, lows_u32, lows_u64, lows_i64, lows_str, allSome, allRw, blksOk_nil, blksOk_none, blksOk_some, getH_zero, getH_succ, getH_nil]
        · simp [wl, hin, -List.map_map, -List.map_set, vtuple_zero, rens_append, lows_append, sgOf_zero, sgOf_succ, rens, V.ren, lows, V.low, rens_u8, rens_u32, rens_u64, rens_i64, rens_str, lows_u8, lows_u32, lows_u64, lows_i64, lows_str, allSome, allRw, blksOk_nil, blksOk_none, blksOk_some, getH_zero, getH_succ, getH_nil]
      · simp only [go_sem, ↓reduceIte, Nat.reduceEqDiff, Nat.reduceLT, Nat.reduceLeDiff, Nat.reduceAdd, Nat.reduceSub, Nat.reduceMul, Nat.reduceMod, Nat.reduceDiv, Int.reduceLE, Int.reduceLT, Int.reduceToNat, Int.reduceAdd, Int.reduceSub, Int.reduceMul, Int.reduceEq, Int.reduceNeg, BitVec.reduceOfInt, BitVec.reduceToNat, BitVec.reduceEq, BitVec.reduceNe, BitVec.reduceLT, reduceCtorEq, List.forall_mem_nil, hin', hin, hiN', hiN, m1, m2, m3, m4, m5, m6, hwl, List.take_of_length_le, ← hs]
        refine ⟨⟨by omega, by omega⟩, by kernel_rfl, ?_⟩
        refine again_ren (j - 1) ⟨[(0, .str key), (2, .ptr 0 0), (4, .ptr 2 0), (5, .i64 n), (25, .i64 N), (26, .i64 (i + 1 : Nat))], [some ⟨false, [.nilSlice, .nilSlice]⟩, some ⟨false, T.map .u8⟩, some ⟨false, [.slice 1 0 256 1, .slice 3 0 (i + 1) 1]⟩, some ⟨false, (wl key n (i + 1)).map .str⟩]⟩ [0, 1, 2, 5] (by omega) rfl (by simp) rfl (by decide) ?_ ?_ ⟨i + 1, by omega, .inr ⟨by omega, rfl⟩⟩
        · simp [slotsOk, St.get, lookS, hw1, -List.map_map, -List.map_set, vtuple_zero, rens_append, lows_append, sgOf_zero, sgOf_succ, rens, V.ren, lows, V.low, rens_u8, rens_u32, rens_u64, rens_i64, rens_str, lows_u8, lows_u32, lows_u64, lows_i64, lows_str, allSome, allRw, blksOk_nil, blksOk_none, blksOk_some, getH_zero, getH_succ, getH_nil]
        · rw [← hs']
          simp [-List.map_map, -List.map_set, vtuple_zero, rens_append, lows_append, sgOf_zero, sgOf_succ, rens, V.ren, lows, V.low, rens_u8, rens_u32, rens_u64, rens_i64, rens_str, lows_u8, lows_u32, lows_u64, lows_i64, lows_str, allSome, allRw, blksOk_nil, blksOk_none, blksOk_some, getH_zero, getH_succ, getH_nil]
    rcases hcase with ⟨rfl, rfl⟩ | ⟨hi0, rfl⟩
    · omega
    by_cases hiN : i < N
    · have hin' : ¬ (i : Int) < (n : Int) := by omega
      have hiN' : (i : Int) < (N : Int) := by omega
      have n0 : ¬ (n : Int) = 0 := by omega
      have z1 : w64 ((i : Int) - 1) = ((i - 1 : Nat) : Int) := by rw [w64_of (by omega) (by omega)]; omega
      have z2 : ((i - 1 : Nat) : Int) < (i : Int) := by omega
      have z3 : i - 1 < i := by omega
      have z4 : (0 : Int) ≤ ((i - 1 : Nat) : Int) := by omega
      have z5 : i - 1 < (wl key n i).length := by omega
      have y1 : w64 ((i : Int) - (n : Int)) = ((i - n : Nat) : Int) := by rw [w64_of (by omega) (by omega)]; omega
      have y2 : ((i - n : Nat) : Int) < (i : Int) := by omega
      have y3 : i - n < i := by omega
      have y4 : (0 : Int) ≤ ((i - n : Nat) : Int) := by omega
      have y5 : i - n < (wl key n i).length := by omega
      have tm : (i : Int).tmod (n : Int) = ((i % n : Nat) : Int) := rfl
      have w1 := wl_four key n (by omega) (by omega) i _ (getD_memL z5)
      have w2 := wl_four key n (by omega) (by omega) i _ (getD_memL y5)
      obtain ⟨l, hle⟩ : ∃ l, l = (wl key n i).getD (i - 1) [] := ⟨_, rfl⟩
      obtain ⟨b, hbe⟩ : ∃ b, b = (wl key n i).getD (i - n) [] := ⟨_, rfl⟩
      rw [← hle] at w1
      rw [← hbe] at w2
      have hs0 : wl key n (i + 1) = wl key n i ++ [xorB b (gW n i l)] := by rw [wl, if_neg hin, ← hle, ← hbe]
      by_cases hm0 : i % n = 0
      · have hm0' : ((i % n : Nat) : Int) = 0 := by omega
        have td : (i : Int).tdiv (n : Int) = ((i / n : Nat) : Int) := rfl
        have hq1 : 1 ≤ i / n := by rcases hn with rfl | rfl <;> omega
        have hq2 : i / n ≤ 100 := by rcases hn with rfl | rfl <;> omega
        have td3 : w64 ((i / n : Nat) : Int) = ((i / n : Nat) : Int) := by rw [w64_of (by omega) (by omega)]
        have td2 : w64 (((i / n : Nat) : Int) - 1) = ((i / n - 1 : Nat) : Int) := by rw [w64_of (by omega) (by omega)]; omega
        simp only [go_sem, ↓reduceIte, Nat.reduceEqDiff, Nat.reduceLT, Nat.reduceLeDiff, Nat.reduceAdd, Nat.reduceSub, Nat.reduceMul, Nat.reduceMod, Nat.reduceDiv, Int.reduceLE, Int.reduceLT, Int.reduceToNat, Int.reduceAdd, Int.reduceSub, Int.reduceMul, Int.reduceEq, Int.reduceNeg, BitVec.reduceOfInt, BitVec.reduceToNat, BitVec.reduceEq, BitVec.reduceNe, BitVec.reduceLT, reduceCtorEq, List.forall_mem_nil, hin', hin, hiN', hiN, hwl, n0, z1, z2, z3, z4, tm, td, hm0', getD_str z5, ← hle, td3, td2]
        refine go_loop (fun jq st => ∃ q : Nat, q + jq = i / n - 1 ∧ st = ⟨[(0, .str key), (2, .ptr 0 0), (4, .ptr 2 0), (5, .i64 n), (6, .i64 i), (7, .str l), (8, .u8 (p2 q)), (25, .i64 N), (26, .i64 i), (57, .i64 (i / n - 1 : Nat)), (58, .i64 q)], [some ⟨false, [.nilSlice, .nilSlice]⟩, some ⟨false, T.map .u8⟩, some ⟨false, [.slice 1 0 256 1, .slice 3 0 i 1]⟩, some ⟨false, (wl key n i).map .str⟩]⟩) ?_ ?_
        · exact start_mk (i / n - 1) ⟨[(0, .str key), (2, .ptr 0 0), (4, .ptr 2 0), (5, .i64 n), (6, .i64 i), (7, .str l), (8, .u8 (p2 (0 : Nat))), (25, .i64 N), (26, .i64 i), (57, .i64 (i / n - 1 : Nat)), (58, .i64 (0 : Nat))], [some ⟨false, [.nilSlice, .nilSlice]⟩, some ⟨false, T.map .u8⟩, some ⟨false, [.slice 1 0 256 1, .slice 3 0 i 1]⟩, some ⟨false, (wl key n i).map .str⟩]⟩ (by simp [St.get, lookS, -List.map_set, -List.map_map, p2]) rfl (fun _ _ h => h) ⟨0, by omega, rfl⟩
        rintro jq st ⟨q, hq, rfl⟩ _
        simp only [go_sem, ↓reduceIte, Nat.reduceEqDiff, Nat.reduceLT, Nat.reduceLeDiff, Nat.reduceAdd, Nat.reduceSub, Nat.reduceMul, Nat.reduceMod, Nat.reduceDiv, Int.reduceLE, Int.reduceLT, Int.reduceToNat, Int.reduceAdd, Int.reduceSub, Int.reduceMul, Int.reduceEq, Int.reduceNeg, BitVec.reduceOfInt, BitVec.reduceToNat, BitVec.reduceEq, BitVec.reduceNe, BitVec.reduceLT, reduceCtorEq, List.forall_mem_nil]
        by_cases hq : q < i / n - 1
        · have hq' : (q : Int) < ((i / n - 1 : Nat) : Int) := by omega
          have hp : p2 (q + 1) = rmul (p2 q) 2#8 := by rw [p2, gmul_rmul]
          simp only [go_sem, ↓reduceIte, Nat.reduceEqDiff, Nat.reduceLT, Nat.reduceLeDiff, Nat.reduceAdd, Nat.reduceSub, Nat.reduceMul, Nat.reduceMod, Nat.reduceDiv, Int.reduceLE, Int.reduceLT, Int.reduceToNat, Int.reduceAdd, Int.reduceSub, Int.reduceMul, Int.reduceEq, Int.reduceNeg, BitVec.reduceOfInt, BitVec.reduceToNat, BitVec.reduceEq, BitVec.reduceNe, BitVec.reduceLT, reduceCtorEq, List.forall_mem_nil, hq', hq]
          refine goCall_pure0 (RMul_spec _ _) ?_
          simp only [go_sem, ↓reduceIte, Nat.reduceEqDiff, Nat.reduceLT, Nat.reduceLeDiff, Nat.reduceAdd, Nat.reduceSub, Nat.reduceMul, Nat.reduceMod, Nat.reduceDiv, Int.reduceLE, Int.reduceLT, Int.reduceToNat, Int.reduceAdd, Int.reduceSub, Int.reduceMul, Int.reduceEq, Int.reduceNeg, BitVec.reduceOfInt, BitVec.reduceToNat, BitVec.reduceEq, BitVec.reduceNe, BitVec.reduceLT, reduceCtorEq, List.forall_mem_nil, ← hp]
          refine again_mk (jq - 1) ⟨[(0, .str key), (2, .ptr 0 0), (4, .ptr 2 0), (5, .i64 n), (6, .i64 i), (7, .str l), (8, .u8 (p2 (q + 1 : Nat))), (25, .i64 N), (26, .i64 i), (57, .i64 (i / n - 1 : Nat)), (58, .i64 (q + 1 : Nat))], [some ⟨false, [.nilSlice, .nilSlice]⟩, some ⟨false, T.map .u8⟩, some ⟨false, [.slice 1 0 256 1, .slice 3 0 i 1]⟩, some ⟨false, (wl key n i).map .str⟩]⟩ (by omega) ?_ rfl (fun _ _ h => h) ⟨q + 1, by omega, rfl⟩
          have hw1 : w64 ((q : Int) + 1) = ((q + 1 : Nat) : Int) := by rw [w64_of (by omega) (by omega)]; omega
          simp [St.get, lookS, hw1, -List.map_set, -List.map_map, List.length_nil]
        · obtain rfl : q = i / n - 1 := by omega
          have hq' : ¬ ((i / n - 1 : Nat) : Int) < ((i / n - 1 : Nat) : Int) := by omega
          have hd : (l.drop 1).length = 3 := by rw [List.length_drop]; omega
          have hlt := (p2 (i / n - 1)).isLt
          have ll1 : (l.drop 1 ++ l.take 1).length ≤ 1000 := by rw [List.length_append, List.length_drop, List.length_take]; omega
          have hc := chr_spec ((p2 (i / n - 1)).toNat : Int)
          rw [chr_byte] at hc
          obtain ⟨r, hr⟩ : ∃ r, r = l.drop 1 ++ l.take 1 := ⟨_, rfl⟩
          have hrl : r.length = 4 := by rw [hr, List.length_append, List.length_drop, List.length_take]; omega
          have hrs : (subAll r).length = 4 := by rw [subAll_length, hrl]
          have hx := RXor_spec (subAll r) (p2 (i / n - 1) :: List.replicate 3 0#8) (by rw [hrs]; exact Nat.le_refl 4) (by omega)
          have hgl := gW_length n i l w1
          have hg : gW n i l = xorB (subAll r) (p2 (i / n - 1) :: List.replicate 3 0#8) := by unfold gW; rw [if_pos hm0, ← hr]
          rw [← hg] at hx
          simp only [go_sem, ↓reduceIte, Nat.reduceEqDiff, Nat.reduceLT, Nat.reduceLeDiff, Nat.reduceAdd, Nat.reduceSub, Nat.reduceMul, Nat.reduceMod, Nat.reduceDiv, Int.reduceLE, Int.reduceLT, Int.reduceToNat, Int.reduceAdd, Int.reduceSub, Int.reduceMul, Int.reduceEq, Int.reduceNeg, BitVec.reduceOfInt, BitVec.reduceToNat, BitVec.reduceEq, BitVec.reduceNe, BitVec.reduceLT, reduceCtorEq, List.forall_mem_nil, hq', w1, ← hr]
          refine ⟨by omega, ?_⟩
          refine goCallD_read [1, 3] (hsub r i (wl key n i) (by omega)) (by kernel_rfl) (by simp [-List.map_map, -List.map_set, vtuple_zero, rens_append, lows_append, sgOf_zero, sgOf_succ, rens, V.ren, lows, V.low, rens_u8, rens_u32, rens_u64, rens_i64, rens_str, lows_u8, lows_u32, lows_u64, lows_i64, lows_str, allSome, allRw, blksOk_nil, blksOk_none, blksOk_some, getH_zero, getH_succ, getH_nil]) rfl (by simp [-List.map_map, -List.map_set, vtuple_zero, rens_append, lows_append, sgOf_zero, sgOf_succ, rens, V.ren, lows, V.low, rens_u8, rens_u32, rens_u64, rens_i64, rens_str, lows_u8, lows_u32, lows_u64, lows_i64, lows_str, allSome, allRw, blksOk_nil, blksOk_none, blksOk_some, getH_zero, getH_succ, getH_nil]) (by decide) (by simp [-List.map_map, -List.map_set, vtuple_zero, rens_append, lows_append, sgOf_zero, sgOf_succ, rens, V.ren, lows, V.low, rens_u8, rens_u32, rens_u64, rens_i64, rens_str, lows_u8, lows_u32, lows_u64, lows_i64, lows_str, allSome, allRw, blksOk_nil, blksOk_none, blksOk_some, getH_zero, getH_succ, getH_nil]) (by simp [-List.map_map, -List.map_set, vtuple_zero, rens_append, lows_append, sgOf_zero, sgOf_succ, rens, V.ren, lows, V.low, rens_u8, rens_u32, rens_u64, rens_i64, rens_str, lows_u8, lows_u32, lows_u64, lows_i64, lows_str, allSome, allRw, blksOk_nil, blksOk_none, blksOk_some, getH_zero, getH_succ, getH_nil]) (by simp [-List.map_map, -List.map_set, vtuple_zero, rens_append, lows_append, sgOf_zero, sgOf_succ, rens, V.ren, lows, V.low, rens_u8, rens_u32, rens_u64, rens_i64, rens_str, lows_u8, lows_u32, lows_u64, lows_i64, lows_str, allSome, allRw, blksOk_nil, blksOk_none, blksOk_some, getH_zero, getH_succ, getH_nil]) (by simp [-List.map_map, -List.map_set, vtuple_zero, rens_append, lows_append, sgOf_zero, sgOf_succ, rens, V.ren, lows, V.low, rens_u8, rens_u32, rens_u64, rens_i64, rens_str, lows_u8, lows_u32, lows_u64, lows_i64, lows_str, allSome, allRw, blksOk_nil, blksOk_none, blksOk_some, getH_zero, getH_succ, getH_nil]) (by simp) (by first | (simp [memRes, oldsOf, sgNew, renO, Blk.ren, List.map_append, -List.map_map, -List.map_set, vtuple_zero, rens_append, lows_append, sgOf_zero, sgOf_succ, rens, V.ren, lows, V.low, rens_u8, rens_u32, rens_u64, rens_i64, rens_str, lows_u8, lows_u32, lows_u64, lows_i64, lows_str, allSome, allRw, blksOk_nil, blksOk_none, blksOk_some, getH_zero, getH_succ, getH_nil]; done) | simp [go_sem, memRes]) ?_
          simp only [go_sem, ↓reduceIte, Nat.reduceEqDiff, Nat.reduceLT, Nat.reduceLeDiff, Nat.reduceAdd, Nat.reduceSub, Nat.reduceMul, Nat.reduceMod, Nat.reduceDiv, Int.reduceLE, Int.reduceLT, Int.reduceToNat, Int.reduceAdd, Int.reduceSub, Int.reduceMul, Int.reduceEq, Int.reduceNeg, BitVec.reduceOfInt, BitVec.reduceToNat, BitVec.reduceEq, BitVec.reduceNe, BitVec.reduceLT, reduceCtorEq, List.forall_mem_nil]
          refine goCallD_pure0 (hc) ?_
          simp only [go_sem, ↓reduceIte, Nat.reduceEqDiff, Nat.reduceLT, Nat.reduceLeDiff, Nat.reduceAdd, Nat.reduceSub, Nat.reduceMul, Nat.reduceMod, Nat.reduceDiv, Int.reduceLE, Int.reduceLT, Int.reduceToNat, Int.reduceAdd, Int.reduceSub, Int.reduceMul, Int.reduceEq, Int.reduceNeg, BitVec.reduceOfInt, BitVec.reduceToNat, BitVec.reduceEq, BitVec.reduceNe, BitVec.reduceLT, reduceCtorEq, List.forall_mem_nil]
          refine goCallD_pure0 (zeros_spec 3 (by decide)) ?_
          simp only [go_sem, ↓reduceIte, Nat.reduceEqDiff, Nat.reduceLT, Nat.reduceLeDiff, Nat.reduceAdd, Nat.reduceSub, Nat.reduceMul, Nat.reduceMod, Nat.reduceDiv, Int.reduceLE, Int.reduceLT, Int.reduceToNat, Int.reduceAdd, Int.reduceSub, Int.reduceMul, Int.reduceEq, Int.reduceNeg, BitVec.reduceOfInt, BitVec.reduceToNat, BitVec.reduceEq, BitVec.reduceNe, BitVec.reduceLT, reduceCtorEq, List.forall_mem_nil]
          refine goCallD_pure0 (hx) ?_
          simp only [go_sem, ↓reduceIte, Nat.reduceEqDiff, Nat.reduceLT, Nat.reduceLeDiff, Nat.reduceAdd, Nat.reduceSub, Nat.reduceMul, Nat.reduceMod, Nat.reduceDiv, Int.reduceLE, Int.reduceLT, Int.reduceToNat, Int.reduceAdd, Int.reduceSub, Int.reduceMul, Int.reduceEq, Int.reduceNeg, BitVec.reduceOfInt, BitVec.reduceToNat, BitVec.reduceEq, BitVec.reduceNe, BitVec.reduceLT, reduceCtorEq, List.forall_mem_nil, hwl, y1, y2, y3, y4, getD_str y5, ← hbe]
          refine ⟨by kernel_rfl, ?_⟩
          refine goCallD_pure0 (RXor_spec b (gW n i l) (by omega) (by omega)) ?_
          simp only [go_sem, ↓reduceIte, Nat.reduceEqDiff, Nat.reduceLT, Nat.reduceLeDiff, Nat.reduceAdd, Nat.reduceSub, Nat.reduceMul, Nat.reduceMod, Nat.reduceDiv, Int.reduceLE, Int.reduceLT, Int.reduceToNat, Int.reduceAdd, Int.reduceSub, Int.reduceMul, Int.reduceEq, Int.reduceNeg, BitVec.reduceOfInt, BitVec.reduceToNat, BitVec.reduceEq, BitVec.reduceNe, BitVec.reduceLT, reduceCtorEq, List.forall_mem_nil, hwl, List.take_of_length_le, ← hs0]
          refine ⟨⟨by omega, by omega⟩, by kernel_rfl, ?_⟩
          refine again_ren (j - 1) ⟨[(0, .str key), (2, .ptr 0 0), (4, .ptr 2 0), (5, .i64 n), (25, .i64 N), (26, .i64 (i + 1 : Nat))], [some ⟨false, [.nilSlice, .nilSlice]⟩, some ⟨false, T.map .u8⟩, some ⟨false, [.slice 1 0 256 1, .slice 3 0 (i + 1) 1]⟩, some ⟨false, (wl key n (i + 1)).map .str⟩]⟩ [0, 1, 2, 5] (by omega) rfl (by simp) rfl (by decide) ?_ ?_ ⟨i + 1, by omega, .inr ⟨by omega, rfl⟩⟩
          · simp [slotsOk, St.get, lookS, hw1, -List.map_map, -List.map_set, vtuple_zero, rens_append, lows_append, sgOf_zero, sgOf_succ, rens, V.ren, lows, V.low, rens_u8, rens_u32, rens_u64, rens_i64, rens_str, lows_u8, lows_u32, lows_u64, lows_i64, lows_str, allSome, allRw, blksOk_nil, blksOk_none, blksOk_some, getH_zero, getH_succ, getH_nil]
          · simp [-List.map_map, -List.map_set, vtuple_zero, rens_append, lows_append, sgOf_zero, sgOf_succ, rens, V.ren, lows, V.low, rens_u8, rens_u32, rens_u64, rens_i64, rens_str, lows_u8, lows_u32, lows_u64, lows_i64, lows_str, allSome, allRw, blksOk_nil, blksOk_none, blksOk_some, getH_zero, getH_succ, getH_nil]
      · have hm0' : ¬ ((i % n : Nat) : Int) = 0 := by omega
        have hgl := gW_length n i l w1
        by_cases hn8 : n = 8
        · have hn8' : ((n : Int) = 8) = True := eq_true (by omega)
          have tm8 : (i : Int).tmod 8 = ((i % 8 : Nat) : Int) := rfl
          by_cases h4 : i % 8 = 4
          · have h4' : ((i % 8 : Nat) : Int) = 4 := by omega
            have hg : gW n i l = subAll l := by unfold gW; rw [if_neg hm0, if_pos ⟨hn8, h4⟩]
            simp only [go_sem, ↓reduceIte, Nat.reduceEqDiff, Nat.reduceLT, Nat.reduceLeDiff, Nat.reduceAdd, Nat.reduceSub, Nat.reduceMul, Nat.reduceMod, Nat.reduceDiv, Int.reduceLE, Int.reduceLT, Int.reduceToNat, Int.reduceAdd, Int.reduceSub, Int.reduceMul, Int.reduceEq, Int.reduceNeg, BitVec.reduceOfInt, BitVec.reduceToNat, BitVec.reduceEq, BitVec.reduceNe, BitVec.reduceLT, reduceCtorEq, List.forall_mem_nil, hin', hin, hiN', hiN, hwl, n0, z1, z2, z3, z4, tm, hm0', getD_str z5, ← hle, hn8', tm8, h4']
            refine goCall_mem [1, 3] (hsub l i (wl key n i) (by omega)) (by kernel_rfl) (by simp [-List.map_map, -List.map_set, vtuple_zero, rens_append, lows_append, sgOf_zero, sgOf_succ, rens, V.ren, lows, V.low, rens_u8, rens_u32, rens_u64, rens_i64, rens_str, lows_u8, lows_u32, lows_u64, lows_i64, lows_str, allSome, allRw, blksOk_nil, blksOk_none, blksOk_some, getH_zero, getH_succ, getH_nil]) rfl (by simp [-List.map_map, -List.map_set, vtuple_zero, rens_append, lows_append, sgOf_zero, sgOf_succ, rens, V.ren, lows, V.low, rens_u8, rens_u32, rens_u64, rens_i64, rens_str, lows_u8, lows_u32, lows_u64, lows_i64, lows_str, allSome, allRw, blksOk_nil, blksOk_none, blksOk_some, getH_zero, getH_succ, getH_nil]) (by decide) (by simp [-List.map_map, -List.map_set, vtuple_zero, rens_append, lows_append, sgOf_zero, sgOf_succ, rens, V.ren, lows, V.low, rens_u8, rens_u32, rens_u64, rens_i64, rens_str, lows_u8, lows_u32, lows_u64, lows_i64, lows_str, allSome, allRw, blksOk_nil, blksOk_none, blksOk_some, getH_zero, getH_succ, getH_nil]) (by simp [-List.map_map, -List.map_set, vtuple_zero, rens_append, lows_append, sgOf_zero, sgOf_succ, rens, V.ren, lows, V.low, rens_u8, rens_u32, rens_u64, rens_i64, rens_str, lows_u8, lows_u32, lows_u64, lows_i64, lows_str, allSome, allRw, blksOk_nil, blksOk_none, blksOk_some, getH_zero, getH_succ, getH_nil]) (by simp [-List.map_map, -List.map_set, vtuple_zero, rens_append, lows_append, sgOf_zero, sgOf_succ, rens, V.ren, lows, V.low, rens_u8, rens_u32, rens_u64, rens_i64, rens_str, lows_u8, lows_u32, lows_u64, lows_i64, lows_str, allSome, allRw, blksOk_nil, blksOk_none, blksOk_some, getH_zero, getH_succ, getH_nil]) (by simp [-List.map_map, -List.map_set, vtuple_zero, rens_append, lows_append, sgOf_zero, sgOf_succ, rens, V.ren, lows, V.low, rens_u8, rens_u32, rens_u64, rens_i64, rens_str, lows_u8, lows_u32, lows_u64, lows_i64, lows_str, allSome, allRw, blksOk_nil, blksOk_none, blksOk_some, getH_zero, getH_succ, getH_nil]) (by simp) ?_
            simp only [go_sem, ↓reduceIte, Nat.reduceEqDiff, Nat.reduceLT, Nat.reduceLeDiff, Nat.reduceAdd, Nat.reduceSub, Nat.reduceMul, Nat.reduceMod, Nat.reduceDiv, Int.reduceLE, Int.reduceLT, Int.reduceToNat, Int.reduceAdd, Int.reduceSub, Int.reduceMul, Int.reduceEq, Int.reduceNeg, BitVec.reduceOfInt, BitVec.reduceToNat, BitVec.reduceEq, BitVec.reduceNe, BitVec.reduceLT, reduceCtorEq, List.forall_mem_nil, memRes, ← hg, hwl, y1, y2, y3, y4, getD_str y5, ← hbe]
            refine goCallD_pure0 (RXor_spec b (gW n i l) (by omega) (by omega)) ?_
            simp only [go_sem, ↓reduceIte, Nat.reduceEqDiff, Nat.reduceLT, Nat.reduceLeDiff, Nat.reduceAdd, Nat.reduceSub, Nat.reduceMul, Nat.reduceMod, Nat.reduceDiv, Int.reduceLE, Int.reduceLT, Int.reduceToNat, Int.reduceAdd, Int.reduceSub, Int.reduceMul, Int.reduceEq, Int.reduceNeg, BitVec.reduceOfInt, BitVec.reduceToNat, BitVec.reduceEq, BitVec.reduceNe, BitVec.reduceLT, reduceCtorEq, List.forall_mem_nil, hwl, List.take_of_length_le, ← hs0]
            refine ⟨⟨by omega, by omega⟩, by kernel_rfl, ?_⟩
            refine again_ren (j - 1) ⟨[(0, .str key), (2, .ptr 0 0), (4, .ptr 2 0), (5, .i64 n), (25, .i64 N), (26, .i64 (i + 1 : Nat))], [some ⟨false, [.nilSlice, .nilSlice]⟩, some ⟨false, T.map .u8⟩, some ⟨false, [.slice 1 0 256 1, .slice 3 0 (i + 1) 1]⟩, some ⟨false, (wl key n (i + 1)).map .str⟩]⟩ [0, 1, 2, 5] (by omega) rfl (by simp) rfl (by decide) ?_ ?_ ⟨i + 1, by omega, .inr ⟨by omega, rfl⟩⟩
            · simp [slotsOk, St.get, lookS, hw1, -List.map_map, -List.map_set, vtuple_zero, rens_append, lows_append, sgOf_zero, sgOf_succ, rens, V.ren, lows, V.low, rens_u8, rens_u32, rens_u64, rens_i64, rens_str, lows_u8, lows_u32, lows_u64, lows_i64, lows_str, allSome, allRw, blksOk_nil, blksOk_none, blksOk_some, getH_zero, getH_succ, getH_nil]
            · simp [-List.map_map, -List.map_set, vtuple_zero, rens_append, lows_append, sgOf_zero, sgOf_succ, rens, V.ren, lows, V.low, rens_u8, rens_u32, rens_u64, rens_i64, rens_str, lows_u8, lows_u32, lows_u64, lows_i64, lows_str, allSome, allRw, blksOk_nil, blksOk_none, blksOk_some, getH_zero, getH_succ, getH_nil]
          · have h4' : ¬ ((i % 8 : Nat) : Int) = 4 := by omega
            have hg : gW n i l = l := by unfold gW; rw [if_neg hm0, if_neg (by omega)]
            simp only [go_sem, ↓reduceIte, Nat.reduceEqDiff, Nat.reduceLT, Nat.reduceLeDiff, Nat.reduceAdd, Nat.reduceSub, Nat.reduceMul, Nat.reduceMod, Nat.reduceDiv, Int.reduceLE, Int.reduceLT, Int.reduceToNat, Int.reduceAdd, Int.reduceSub, Int.reduceMul, Int.reduceEq, Int.reduceNeg, BitVec.reduceOfInt, BitVec.reduceToNat, BitVec.reduceEq, BitVec.reduceNe, BitVec.reduceLT, reduceCtorEq, List.forall_mem_nil, hin', hin, hiN', hiN, hwl, n0, z1, z2, z3, z4, tm, hm0', getD_str z5, ← hle, hn8', tm8, h4', y1, y2, y3, y4, getD_str y5, ← hbe]
            rw [hg] at hs0 hgl
            refine goCallD_pure0 (RXor_spec b l (by omega) (by omega)) ?_
            simp only [go_sem, ↓reduceIte, Nat.reduceEqDiff, Nat.reduceLT, Nat.reduceLeDiff, Nat.reduceAdd, Nat.reduceSub, Nat.reduceMul, Nat.reduceMod, Nat.reduceDiv, Int.reduceLE, Int.reduceLT, Int.reduceToNat, Int.reduceAdd, Int.reduceSub, Int.reduceMul, Int.reduceEq, Int.reduceNeg, BitVec.reduceOfInt, BitVec.reduceToNat, BitVec.reduceEq, BitVec.reduceNe, BitVec.reduceLT, reduceCtorEq, List.forall_mem_nil, hwl, List.take_of_length_le, ← hs0]
            refine ⟨⟨by omega, by omega⟩, by kernel_rfl, ?_⟩
            refine again_ren (j - 1) ⟨[(0, .str key), (2, .ptr 0 0), (4, .ptr 2 0), (5, .i64 n), (25, .i64 N), (26, .i64 (i + 1 : Nat))], [some ⟨false, [.nilSlice, .nilSlice]⟩, some ⟨false, T.map .u8⟩, some ⟨false, [.slice 1 0 256 1, .slice 3 0 (i + 1) 1]⟩, some ⟨false, (wl key n (i + 1)).map .str⟩]⟩ [0, 1, 2, 5] (by omega) rfl (by simp) rfl (by decide) ?_ ?_ ⟨i + 1, by omega, .inr ⟨by omega, rfl⟩⟩
            · simp [slotsOk, St.get, lookS, hw1, -List.map_map, -List.map_set, vtuple_zero, rens_append, lows_append, sgOf_zero, sgOf_succ, rens, V.ren, lows, V.low, rens_u8, rens_u32, rens_u64, rens_i64, rens_str, lows_u8, lows_u32, lows_u64, lows_i64, lows_str, allSome, allRw, blksOk_nil, blksOk_none, blksOk_some, getH_zero, getH_succ, getH_nil]
            · simp [-List.map_map, -List.map_set, vtuple_zero, rens_append, lows_append, sgOf_zero, sgOf_succ, rens, V.ren, lows, V.low, rens_u8, rens_u32, rens_u64, rens_i64, rens_str, lows_u8, lows_u32, lows_u64, lows_i64, lows_str, allSome, allRw, blksOk_nil, blksOk_none, blksOk_some, getH_zero, getH_succ, getH_nil]
        · have hn8' : ¬ (n : Int) = 8 := by omega
          have hg : gW n i l = l := by unfold gW; rw [if_neg hm0, if_neg (by omega)]
          simp only [go_sem, ↓reduceIte, Nat.reduceEqDiff, Nat.reduceLT, Nat.reduceLeDiff, Nat.reduceAdd, Nat.reduceSub, Nat.reduceMul, Nat.reduceMod, Nat.reduceDiv, Int.reduceLE, Int.reduceLT, Int.reduceToNat, Int.reduceAdd, Int.reduceSub, Int.reduceMul, Int.reduceEq, Int.reduceNeg, BitVec.reduceOfInt, BitVec.reduceToNat, BitVec.reduceEq, BitVec.reduceNe, BitVec.reduceLT, reduceCtorEq, List.forall_mem_nil, hin', hin, hiN', hiN, hwl, n0, z1, z2, z3, z4, tm, hm0', getD_str z5, ← hle, hn8', y1, y2, y3, y4, getD_str y5, ← hbe]
          rw [hg] at hs0 hgl
          refine goCallD_pure0 (RXor_spec b l (by omega) (by omega)) ?_
          simp only [go_sem, ↓reduceIte, Nat.reduceEqDiff, Nat.reduceLT, Nat.reduceLeDiff, Nat.reduceAdd, Nat.reduceSub, Nat.reduceMul, Nat.reduceMod, Nat.reduceDiv, Int.reduceLE, Int.reduceLT, Int.reduceToNat, Int.reduceAdd, Int.reduceSub, Int.reduceMul, Int.reduceEq, Int.reduceNeg, BitVec.reduceOfInt, BitVec.reduceToNat, BitVec.reduceEq, BitVec.reduceNe, BitVec.reduceLT, reduceCtorEq, List.forall_mem_nil, hwl, List.take_of_length_le, ← hs0]
          refine ⟨⟨by omega, by omega⟩, by kernel_rfl, ?_⟩
          refine again_ren (j - 1) ⟨[(0, .str key), (2, .ptr 0 0), (4, .ptr 2 0), (5, .i64 n), (25, .i64 N), (26, .i64 (i + 1 : Nat))], [some ⟨false, [.nilSlice, .nilSlice]⟩, some ⟨false, T.map .u8⟩, some ⟨false, [.slice 1 0 256 1, .slice 3 0 (i + 1) 1]⟩, some ⟨false, (wl key n (i + 1)).map .str⟩]⟩ [0, 1, 2, 5] (by omega) rfl (by simp) rfl (by decide) ?_ ?_ ⟨i + 1, by omega, .inr ⟨by omega, rfl⟩⟩
          · simp [slotsOk, St.get, lookS, hw1, -List.map_map, -List.map_set, vtuple_zero, rens_append, lows_append, sgOf_zero, sgOf_succ, rens, V.ren, lows, V.low, rens_u8, rens_u32, rens_u64, rens_i64, rens_str, lows_u8, lows_u32, lows_u64, lows_i64, lows_str, allSome, allRw, blksOk_nil, blksOk_none, blksOk_some, getH_zero, getH_succ, getH_nil]
          · simp [-List.map_map, -List.map_set, vtuple_zero, rens_append, lows_append, sgOf_zero, sgOf_succ, rens, V.ren, lows, V.low, rens_u8, rens_u32, rens_u64, rens_i64, rens_str, lows_u8, lows_u32, lows_u64, lows_i64, lows_str, allSome, allRw, blksOk_nil, blksOk_none, blksOk_some, getH_zero, getH_succ, getH_nil]
    · obtain rfl : i = N := by omega
      have hiN' : ¬ (i : Int) < (i : Int) := by omega
      simp only [go_sem, ↓reduceIte, Nat.reduceEqDiff, Nat.reduceLT, Nat.reduceLeDiff, Nat.reduceAdd, Nat.reduceSub, Nat.reduceMul, Nat.reduceMod, Nat.reduceDiv, Int.reduceLE, Int.reduceLT, Int.reduceToNat, Int.reduceAdd, Int.reduceSub, Int.reduceMul, Int.reduceEq, Int.reduceNeg, BitVec.reduceOfInt, BitVec.reduceToNat, BitVec.reduceEq, BitVec.reduceNe, BitVec.reduceLT, reduceCtorEq, List.forall_mem_nil, hiN']
      exact Fin.ren [1, 3] (by simp) (by simp) (by rfl) (by decide) (by simp [-List.map_map, -List.map_set, vtuple_zero, rens_append, lows_append, sgOf_zero, sgOf_succ, rens, V.ren, lows, V.low, rens_u8, rens_u32, rens_u64, rens_i64, rens_str, lows_u8, lows_u32, lows_u64, lows_i64, lows_str, allSome, allRw, blksOk_nil, blksOk_none, blksOk_some, getH_zero, getH_succ, getH_nil]) (by simp [-List.map_map, -List.map_set, vtuple_zero, rens_append, lows_append, sgOf_zero, sgOf_succ, rens, V.ren, lows, V.low, rens_u8, rens_u32, rens_u64, rens_i64, rens_str, lows_u8, lows_u32, lows_u64, lows_i64, lows_str, allSome, allRw, blksOk_nil, blksOk_none, blksOk_some, getH_zero, getH_succ, getH_nil])

end Go.Vm
end
section
namespace Go.Vm
open Go.Proofs
set_option maxRecDepth 20000
theorem wl_flat (key : List (BitVec 8)) (n : Nat) (hn : 0 < n) (hk : key.length = 4 * n) (i : Nat) : (wl key n i).flatten.length = 4 * i := by
  have h4 := wl_four key n hn hk i
  have hl := wl_length key n i
  generalize wl key n i = l at *
  subst hl
  induction l with
  | nil => rfl
  | cons x l ih => rw [List.flatten_cons, List.length_append, h4 x (by simp), ih (fun w hw => h4 w (by simp [hw])), List.length_cons]; omega
theorem wl_key (key : List (BitVec 8)) (n : Nat) (hk : key.length = 4 * n) (i : Nat) (hi : i ≤ n) : (wl key n i).flatten = key.take (4 * i) := by
  induction i with
  | zero => rfl
  | succ i ih =>
    rw [wl, if_pos (by omega), List.flatten_append, ih (by omega)]
    rw [show 4 * (i + 1) = 4 * i + 4 by omega, List.take_add]
    simp
theorem flat_at (l : List (List (BitVec 8))) (h4 : ∀ w ∈ l, w.length = 4) (i k : Nat) (hi : i < l.length) (hk : k < 4) : l.flatten.getD (4 * i + k) 0 = (l.getD i []).getD k 0 := by
  induction l generalizing i with
  | nil => simp at hi
  | cons x l ih =>
    have hx := h4 x (by simp)
    cases i with
    | zero => rw [List.flatten_cons, List.getD_eq_getElem?_getD, List.getElem?_append_left (by omega)]; simp [List.getD_eq_getElem?_getD]
    | succ i =>
      have hi' : i < l.length := by rw [List.length_cons] at hi; omega
      rw [List.flatten_cons, List.getD_eq_getElem?_getD, List.getElem?_append_right (by omega), hx, show 4 * (i + 1) + k - 4 = 4 * i + k by omega, ← List.getD_eq_getElem?_getD, ih (fun w hw => h4 w (by simp [hw])) i hi']
      simp
theorem flat_drop (l : List (List (BitVec 8))) (h4 : ∀ w ∈ l, w.length = 4) (i : Nat) (hi : i < l.length) : (l.flatten.drop (4 * i)).take 4 = l.getD i [] := by
  induction l generalizing i with
  | nil => simp at hi
  | cons x l ih =>
    have hx := h4 x (by simp)
    cases i with
    | zero => rw [List.flatten_cons, Nat.mul_zero, List.drop_zero, ← hx, List.take_left]; rfl
    | succ i =>
      have hi' : i < l.length := by rw [List.length_cons] at hi; omega
      rw [List.flatten_cons, show 4 * (i + 1) = 4 + 4 * i by omega, ← List.drop_drop, ← hx, List.drop_left, hx, ih (fun w hw => h4 w (by simp [hw])) i hi']
      simp
theorem four_of (l : List (BitVec 8)) (h : l.length = 4) : ∃ a b c d, l = [a, b, c, d] := by
  match l, h with
  | [a, b, c, d], _ => exact ⟨a, b, c, d, rfl⟩
theorem splice_four (w x y z a b c d : V) : splice [w, x, y, z] 0 [a, b, c, d] = [a, b, c, d] := rfl
theorem w64_ints (k : Nat) (h : k ≤ 1000) : w64 (k : Int) = (k : Int) := by rw [w64_of (by omega) (by omega)]
set_option maxHeartbeats 4000000 in
theorem expand_spec (key : List (BitVec 8)) (n : Nat) (hn : n = 4 ∨ n = 8) (hk : key.length = 4 * n) : Spec0 Try.prog 55 [.ptr 0 0, .str key] [some ⟨false, (mkT 256).map .u8⟩] (.str (wl key n (4 * (n + 7))).flatten) [some ⟨false, (mkT 256).map .u8⟩] := by
  have e0 : w64 ((key.length : Int).tdiv 4) = (n : Int) := by rw [show (4 : Int) = ((4 : Nat) : Int) from rfl, tdiv_nat, w64_of (by omega) (by omega)]; omega
  have e1 : w64 ((n : Int) + 7) = ((n + 7 : Nat) : Int) := by rw [w64_of (by omega) (by omega)]; omega
  have e2 : w64 (4 * ((n + 7 : Nat) : Int)) = ((4 * (n + 7) : Nat) : Int) := by rw [w64_of (by omega) (by omega)]; omega
  have hw0 : (wl key n n).flatten = key := by rw [wl_key key n hk n (Nat.le_refl n), ← hk, List.take_length]
  generalize hN : 4 * (n + 7) = N at *
  have hT := T_sub
  have hTl := mkT_length 256
  generalize mkT 256 = T at *
  have hks : key.length ≤ 1000 := by omega
  have hnn : (n - 1) / n = 0 := by rcases hn with rfl | rfl <;> rfl
  refine spec0_of_vc (by kernel_rfl) (fn := Try.f55) Try.func55 rfl (by show 2 ≤ 117; decide) (go_start ?_)
  simp only [go_sem, ↓reduceIte, Nat.reduceEqDiff, Nat.reduceLT, Nat.reduceLeDiff, Nat.reduceAdd, Nat.reduceSub, Nat.reduceMul, Nat.reduceMod, Nat.reduceDiv, Int.reduceLE, Int.reduceLT, Int.reduceToNat, Int.reduceAdd, Int.reduceSub, Int.reduceMul, Int.reduceEq, Int.reduceNeg, BitVec.reduceOfInt, BitVec.reduceToNat, BitVec.reduceEq, BitVec.reduceNe, BitVec.reduceLT, reduceCtorEq, List.forall_mem_nil, Try.ntmps55, Try.results55, e0]
  refine ⟨by omega, ?_⟩
  refine go_loop (fun j st => ∃ i : Nat, i + j = N ∧ n ≤ i ∧ st = ⟨[(0, .ptr 0 0), (5, .i64 n), (6, .slice 1 0 (4 * i) 1), (7, .u8 (p2 ((i - 1) / n))), (8, .i64 i)], [some ⟨false, T.map .u8⟩, some ⟨false, (wl key n i).flatten.map .u8⟩]⟩) ?_ ?_
  · exact start_mk (N - n) ⟨[(0, .ptr 0 0), (5, .i64 n), (6, .slice 1 0 (4 * n) 1), (7, .u8 (p2 ((n - 1) / n))), (8, .i64 n)], [some ⟨false, T.map .u8⟩, some ⟨false, (wl key n n).flatten.map .u8⟩]⟩ (by simp [St.get, lookS, hnn, p2, hk]) rfl (by rw [hw0]; exact fun _ _ h => h) ⟨n, by omega, by omega, rfl⟩
  rintro j st ⟨i, hi, hni, rfl⟩ _
  have hwl := wl_length key n i
  have hw4 := wl_four key n (by omega) hk i
  have hfl := wl_flat key n (by omega) hk i
  have hw1 : w64 ((i : Int) + 1) = ((i + 1 : Nat) : Int) := by rw [w64_of (by omega) (by omega)]; omega
  by_cases hiN : i < N
  · have hiN' : (i : Int) < (N : Int) := by omega
    have z1 : w64 (((4 * i : Nat) : Int) - 4) = ((4 * (i - 1) : Nat) : Int) := by rw [w64_of (by omega) (by omega)]; omega
    have z2 : ((4 * (i - 1) : Nat) : Int) ≤ ((4 * i : Nat) : Int) := by omega
    have z4 : (0 : Int) ≤ ((4 * (i - 1) : Nat) : Int) := by omega
    have z5 : 4 * i - 4 * (i - 1) = 4 := by omega
    have z6 : (((4 * i : Nat) : Int) - ((4 * (i - 1) : Nat) : Int)).toNat = 4 := by omega
    have z7 : 4 * (i - 1) + 4 ≤ 4 * i := by omega
    have n0 : ¬ (n : Int) = 0 := by omega
    have tm : (i : Int).tmod (n : Int) = ((i % n : Nat) : Int) := rfl
    have hi1 : i - 1 < (wl key n i).length := by omega
    have hi2 : i - n < (wl key n i).length := by omega
    have hd := flat_drop (wl key n i) hw4 (i - 1) hi1
    have w1 := hw4 _ (getD_memL hi1)
    have w2 := hw4 _ (getD_memL hi2)
    have hfa := fun k hk => flat_at (wl key n i) hw4 (i - n) k hi2 hk
    obtain ⟨l, hle⟩ : ∃ l, l = (wl key n i).getD (i - 1) [] := ⟨_, rfl⟩
    obtain ⟨r, hre⟩ : ∃ r, r = (wl key n i).getD (i - n) [] := ⟨_, rfl⟩
    rw [← hle] at w1 hd
    rw [← hre] at w2 hfa
    have hs0 : wl key n (i + 1) = wl key n i ++ [xorB r (gW n i l)] := by rw [wl, if_neg (by omega), ← hle, ← hre]
    have hs1 : (wl key n (i + 1)).flatten = (wl key n i).flatten ++ xorB r (gW n i l) := by rw [hs0, List.flatten_append]; simp
    obtain ⟨a, b, c, d, rfl⟩ := four_of l w1
    obtain ⟨x0, x1, x2, x3, rfl⟩ := four_of r w2
    have hT' : ∀ b : BitVec 8, (T.map V.u8).getD b.toNat .junk = .u8 (subC b) := fun b => by rw [getD_u8 (by have := b.isLt; omega), hT]
    have hb1 : ∀ b : BitVec 8, (b.toNat : Int) < 256 := fun b => by have := b.isLt; omega
    have hb2 : ∀ b : BitVec 8, (0 : Int) ≤ (b.toNat : Int) := fun b => by omega
    have hb3 : ∀ b : BitVec 8, b.toNat < 512 := fun b => by have := b.isLt; omega
    have hb4 : ∀ b : BitVec 8, b.toNat < 256 := fun b => by have := b.isLt; omega
    generalize hfg : (wl key n i).flatten = w at *
    have y0 : w64 ((i : Int) - (n : Int)) = ((i - n : Nat) : Int) := by rw [w64_of (by omega) (by omega)]; omega
    have y1 : w64 (4 * ((i - n : Nat) : Int)) = ((4 * (i - n) : Nat) : Int) := by rw [w64_of (by omega) (by omega)]; omega
    have y2 : w64 (((4 * (i - n) : Nat) : Int) + 0) = ((4 * (i - n) : Nat) : Int) := by rw [w64_of (by omega) (by omega)]; omega
    have y3 : w64 (((4 * (i - n) : Nat) : Int) + 1) = ((4 * (i - n) + 1 : Nat) : Int) := by rw [w64_of (by omega) (by omega)]; omega
    have y4 : w64 (((4 * (i - n) : Nat) : Int) + 2) = ((4 * (i - n) + 2 : Nat) : Int) := by rw [w64_of (by omega) (by omega)]; omega
    have y5 : w64 (((4 * (i - n) : Nat) : Int) + 3) = ((4 * (i - n) + 3 : Nat) : Int) := by rw [w64_of (by omega) (by omega)]; omega
    have k0 : 4 * (i - n) < w.length := by omega
    have k1 : 4 * (i - n) < 4 * i := by omega
    have k2 : ((4 * (i - n) : Nat) : Int) < ((4 * i : Nat) : Int) := by omega
    have k3 : (0 : Int) ≤ ((4 * (i - n) : Nat) : Int) := by omega
    have g0 : w.getD (4 * (i - n)) 0 = x0 := hfa 0 (by decide)
    have hG : ∀ k, k < 4 → ∀ ys : List (BitVec 8), (List.map V.u8 (w ++ ys)).getD (4 * (i - n) + k) .junk = .u8 ([x0, x1, x2, x3].getD k 0) := by
      intro k hk ys
      have hlt : 4 * (i - n) + k < w.length := by omega
      rw [getD_u8 (by rw [List.length_append]; omega), List.getD_eq_getElem?_getD, List.getElem?_append_left hlt, ← List.getD_eq_getElem?_getD, hfa k hk]
    have g1 := hG 1 (by decide)
    have g2 := hG 2 (by decide)
    have g3 := hG 3 (by decide)
    have htk : w.take (4 * i) = w := List.take_of_length_le (by omega)
    have k4 : 4 * (i - n) + 1 < 4 * i := by omega
    have k5 : 4 * (i - n) + 2 < 4 * i := by omega
    have k6 : 4 * (i - n) + 3 < 4 * i := by omega
    by_cases hm0 : i % n = 0
    · have hm0' : ((i % n : Nat) : Int) = 0 := by omega
      have hq : (i - 1) / n = i / n - 1 := by rcases hn with rfl | rfl <;> omega
      have hq1 : i / n = (i / n - 1) + 1 := by rcases hn with rfl | rfl <;> omega
      have hp : p2 (i / n) = gmul (p2 (i / n - 1)) 2#8 := by rw [hq1]; rfl
      have hg : gW n i [a, b, c, d] = [subC b ^^^ p2 (i / n - 1), subC c, subC d, subC a] := by unfold gW; rw [if_pos hm0]; simp [subAll, xorB]
      rw [hq]
      simp only [go_sem, ↓reduceIte, Nat.reduceEqDiff, Nat.reduceLT, Nat.reduceLeDiff, Nat.reduceAdd, Nat.reduceSub, Nat.reduceMul, Nat.reduceMod, Nat.reduceDiv, Int.reduceLE, Int.reduceLT, Int.reduceToNat, Int.reduceAdd, Int.reduceSub, Int.reduceMul, Int.reduceEq, Int.reduceNeg, BitVec.reduceOfInt, BitVec.reduceToNat, BitVec.reduceEq, BitVec.reduceNe, BitVec.reduceLT, reduceCtorEq, List.forall_mem_nil, e1, e2, hiN', hfl, z1, z2, z4, z5, z6, z7, Nat.min_self, n0, tm, hm0', hd, splice_four]
      refine go_unroll 4 ?_
      simp only [go_sem, ↓reduceIte, Nat.reduceEqDiff, Nat.reduceLT, Nat.reduceLeDiff, Nat.reduceAdd, Nat.reduceSub, Nat.reduceMul, Nat.reduceMod, Nat.reduceDiv, Int.reduceLE, Int.reduceLT, Int.reduceToNat, Int.reduceAdd, Int.reduceSub, Int.reduceMul, Int.reduceEq, Int.reduceNeg, BitVec.reduceOfInt, BitVec.reduceToNat, BitVec.reduceEq, BitVec.reduceNe, BitVec.reduceLT, reduceCtorEq, List.forall_mem_nil, hT', hb1, hb2, hb3, hb4, hTl]
      refine ⟨by kernel_rfl, by kernel_rfl, by kernel_rfl, ?_⟩
      refine goCall_pure0 (Mul_spec _ _) ?_
      simp only [go_sem, ↓reduceIte, Nat.reduceEqDiff, Nat.reduceLT, Nat.reduceLeDiff, Nat.reduceAdd, Nat.reduceSub, Nat.reduceMul, Nat.reduceMod, Nat.reduceDiv, Int.reduceLE, Int.reduceLT, Int.reduceToNat, Int.reduceAdd, Int.reduceSub, Int.reduceMul, Int.reduceEq, Int.reduceNeg, BitVec.reduceOfInt, BitVec.reduceToNat, BitVec.reduceEq, BitVec.reduceNe, BitVec.reduceLT, reduceCtorEq, List.forall_mem_nil, ← hp]
      refine go_unroll 5 ?_
      simp only [go_sem, ↓reduceIte, Nat.reduceEqDiff, Nat.reduceLT, Nat.reduceLeDiff, Nat.reduceAdd, Nat.reduceSub, Nat.reduceMul, Nat.reduceMod, Nat.reduceDiv, Int.reduceLE, Int.reduceLT, Int.reduceToNat, Int.reduceAdd, Int.reduceSub, Int.reduceMul, Int.reduceEq, Int.reduceNeg, BitVec.reduceOfInt, BitVec.reduceToNat, BitVec.reduceEq, BitVec.reduceNe, BitVec.reduceLT, reduceCtorEq, List.forall_mem_nil, y0, y1, y2, y3, y4, y5, k0, k1, k2, k3, getD_u8 k0, g0, hfl, htk, List.append_assoc, g1, g2, g3, List.take_of_length_le]
      refine ⟨⟨by omega, by omega⟩, ⟨by omega, by omega⟩, by omega, ⟨by omega, by omega⟩, ⟨by omega, by omega⟩, by omega, ⟨by omega, by omega⟩, ⟨by omega, by omega⟩, by omega, ⟨by omega, by omega⟩, ?_⟩
      refine again_ren (j - 1) ⟨[(0, .ptr 0 0), (5, .i64 n), (6, .slice 1 0 (4 * (i + 1 : Nat)) 1), (7, .u8 (p2 (((i + 1 : Nat) - 1) / n))), (8, .i64 (i + 1 : Nat))], [some ⟨false, T.map .u8⟩, some ⟨false, (wl key n (i + 1 : Nat)).flatten.map .u8⟩]⟩ [0, 10] (by omega) rfl (by simp) rfl (by decide) ?_ ?_ ⟨i + 1, by omega, by omega, rfl⟩
      · rw [show (i + 1 - 1) / n = i / n by rw [Nat.add_sub_cancel]]
        simp [slotsOk, St.get, lookS, hw1, hp, Nat.mul_add, -List.map_map, -List.map_set, vtuple_zero, rens_append, lows_append, sgOf_zero, sgOf_succ, rens, V.ren, lows, V.low, rens_u8, rens_u32, rens_u64, rens_i64, rens_str, lows_u8, lows_u32, lows_u64, lows_i64, lows_str, allSome, allRw, blksOk_nil, blksOk_none, blksOk_some, getH_zero, getH_succ, getH_nil]
      · rw [hs1, hg]
        simp [xorB, -List.map_map, -List.map_set, vtuple_zero, rens_append, lows_append, sgOf_zero, sgOf_succ, rens, V.ren, lows, V.low, rens_u8, rens_u32, rens_u64, rens_i64, rens_str, lows_u8, lows_u32, lows_u64, lows_i64, lows_str, allSome, allRw, blksOk_nil, blksOk_none, blksOk_some, getH_zero, getH_succ, getH_nil]
    · have hm0' : ¬ ((i % n : Nat) : Int) = 0 := by omega
      have hq : (i - 1) / n = i / n := by rcases hn with rfl | rfl <;> omega
      rw [hq]
      by_cases hn8 : n = 8
      · have hn8' : ((n : Int) = 8) = True := eq_true (by omega)
        by_cases h4 : i % n = 4
        · have h4' : ((i % n : Nat) : Int) = 4 := by omega
          have hg : gW n i [a, b, c, d] = [subC a, subC b, subC c, subC d] := by unfold gW; rw [if_neg hm0, if_pos ⟨hn8, hn8 ▸ h4⟩]; simp [subAll]
          simp only [go_sem, ↓reduceIte, Nat.reduceEqDiff, Nat.reduceLT, Nat.reduceLeDiff, Nat.reduceAdd, Nat.reduceSub, Nat.reduceMul, Nat.reduceMod, Nat.reduceDiv, Int.reduceLE, Int.reduceLT, Int.reduceToNat, Int.reduceAdd, Int.reduceSub, Int.reduceMul, Int.reduceEq, Int.reduceNeg, BitVec.reduceOfInt, BitVec.reduceToNat, BitVec.reduceEq, BitVec.reduceNe, BitVec.reduceLT, reduceCtorEq, List.forall_mem_nil, e1, e2, hiN', hfl, z1, z2, z4, z5, z6, z7, Nat.min_self, n0, tm, hm0', hd, splice_four, hn8', h4']
          refine go_unroll 5 ?_
          simp only [go_sem, ↓reduceIte, Nat.reduceEqDiff, Nat.reduceLT, Nat.reduceLeDiff, Nat.reduceAdd, Nat.reduceSub, Nat.reduceMul, Nat.reduceMod, Nat.reduceDiv, Int.reduceLE, Int.reduceLT, Int.reduceToNat, Int.reduceAdd, Int.reduceSub, Int.reduceMul, Int.reduceEq, Int.reduceNeg, BitVec.reduceOfInt, BitVec.reduceToNat, BitVec.reduceEq, BitVec.reduceNe, BitVec.reduceLT, reduceCtorEq, List.forall_mem_nil, hT', hb1, hb2, hb3, hb4, hTl]
          refine go_unroll 5 ?_
          simp only [go_sem, ↓reduceIte, Nat.reduceEqDiff, Nat.reduceLT, Nat.reduceLeDiff, Nat.reduceAdd, Nat.reduceSub, Nat.reduceMul, Nat.reduceMod, Nat.reduceDiv, Int.reduceLE, Int.reduceLT, Int.reduceToNat, Int.reduceAdd, Int.reduceSub, Int.reduceMul, Int.reduceEq, Int.reduceNeg, BitVec.reduceOfInt, BitVec.reduceToNat, BitVec.reduceEq, BitVec.reduceNe, BitVec.reduceLT, reduceCtorEq, List.forall_mem_nil, y0, y1, y2, y3, y4, y5, k0, k1, k2, k3, getD_u8 k0, g0, hfl, htk, List.append_assoc, g1, g2, g3, List.take_of_length_le]
          refine ⟨⟨by omega, by omega⟩, ⟨by omega, by omega⟩, by omega, ⟨by omega, by omega⟩, ⟨by omega, by omega⟩, by omega, ⟨by omega, by omega⟩, ⟨by omega, by omega⟩, by omega, ⟨by omega, by omega⟩, ?_⟩
          refine again_ren (j - 1) ⟨[(0, .ptr 0 0), (5, .i64 n), (6, .slice 1 0 (4 * (i + 1 : Nat)) 1), (7, .u8 (p2 (((i + 1 : Nat) - 1) / n))), (8, .i64 (i + 1 : Nat))], [some ⟨false, T.map .u8⟩, some ⟨false, (wl key n (i + 1 : Nat)).flatten.map .u8⟩]⟩ [0, 10] (by omega) rfl (by simp) rfl (by decide) ?_ ?_ ⟨i + 1, by omega, by omega, rfl⟩
          · rw [show (i + 1 - 1) / n = i / n by rw [Nat.add_sub_cancel]]
            simp [slotsOk, St.get, lookS, hw1, List.length_nil, Nat.mul_add, -List.map_map, -List.map_set, vtuple_zero, rens_append, lows_append, sgOf_zero, sgOf_succ, rens, V.ren, lows, V.low, rens_u8, rens_u32, rens_u64, rens_i64, rens_str, lows_u8, lows_u32, lows_u64, lows_i64, lows_str, allSome, allRw, blksOk_nil, blksOk_none, blksOk_some, getH_zero, getH_succ, getH_nil]
          · rw [hs1, hg]
            simp [xorB, -List.map_map, -List.map_set, vtuple_zero, rens_append, lows_append, sgOf_zero, sgOf_succ, rens, V.ren, lows, V.low, rens_u8, rens_u32, rens_u64, rens_i64, rens_str, lows_u8, lows_u32, lows_u64, lows_i64, lows_str, allSome, allRw, blksOk_nil, blksOk_none, blksOk_some, getH_zero, getH_succ, getH_nil]
        · have h4' : ¬ ((i % n : Nat) : Int) = 4 := by omega
          have hg : gW n i [a, b, c, d] = [a, b, c, d] := by unfold gW; rw [if_neg hm0, if_neg (fun h => h4 (by rw [hn8]; exact h.2))]
          simp only [go_sem, ↓reduceIte, Nat.reduceEqDiff, Nat.reduceLT, Nat.reduceLeDiff, Nat.reduceAdd, Nat.reduceSub, Nat.reduceMul, Nat.reduceMod, Nat.reduceDiv, Int.reduceLE, Int.reduceLT, Int.reduceToNat, Int.reduceAdd, Int.reduceSub, Int.reduceMul, Int.reduceEq, Int.reduceNeg, BitVec.reduceOfInt, BitVec.reduceToNat, BitVec.reduceEq, BitVec.reduceNe, BitVec.reduceLT, reduceCtorEq, List.forall_mem_nil, e1, e2, hiN', hfl, z1, z2, z4, z5, z6, z7, Nat.min_self, n0, tm, hm0', hd, splice_four, hn8', h4']
          refine go_unroll 5 ?_
          simp only [go_sem, ↓reduceIte, Nat.reduceEqDiff, Nat.reduceLT, Nat.reduceLeDiff, Nat.reduceAdd, Nat.reduceSub, Nat.reduceMul, Nat.reduceMod, Nat.reduceDiv, Int.reduceLE, Int.reduceLT, Int.reduceToNat, Int.reduceAdd, Int.reduceSub, Int.reduceMul, Int.reduceEq, Int.reduceNeg, BitVec.reduceOfInt, BitVec.reduceToNat, BitVec.reduceEq, BitVec.reduceNe, BitVec.reduceLT, reduceCtorEq, List.forall_mem_nil, y0, y1, y2, y3, y4, y5, k0, k1, k2, k3, getD_u8 k0, g0, hfl, htk, List.append_assoc, g1, g2, g3, List.take_of_length_le]
          refine ⟨⟨by omega, by omega⟩, ⟨by omega, by omega⟩, by omega, ⟨by omega, by omega⟩, ⟨by omega, by omega⟩, by omega, ⟨by omega, by omega⟩, ⟨by omega, by omega⟩, by omega, ⟨by omega, by omega⟩, ?_⟩
          refine again_ren (j - 1) ⟨[(0, .ptr 0 0), (5, .i64 n), (6, .slice 1 0 (4 * (i + 1 : Nat)) 1), (7, .u8 (p2 (((i + 1 : Nat) - 1) / n))), (8, .i64 (i + 1 : Nat))], [some ⟨false, T.map .u8⟩, some ⟨false, (wl key n (i + 1 : Nat)).flatten.map .u8⟩]⟩ [0, 10] (by omega) rfl (by simp) rfl (by decide) ?_ ?_ ⟨i + 1, by omega, by omega, rfl⟩
          · rw [show (i + 1 - 1) / n = i / n by rw [Nat.add_sub_cancel]]
            simp [slotsOk, St.get, lookS, hw1, List.length_nil, Nat.mul_add, -List.map_map, -List.map_set, vtuple_zero, rens_append, lows_append, sgOf_zero, sgOf_succ, rens, V.ren, lows, V.low, rens_u8, rens_u32, rens_u64, rens_i64, rens_str, lows_u8, lows_u32, lows_u64, lows_i64, lows_str, allSome, allRw, blksOk_nil, blksOk_none, blksOk_some, getH_zero, getH_succ, getH_nil]
          · rw [hs1, hg]
            simp [xorB, -List.map_map, -List.map_set, vtuple_zero, rens_append, lows_append, sgOf_zero, sgOf_succ, rens, V.ren, lows, V.low, rens_u8, rens_u32, rens_u64, rens_i64, rens_str, lows_u8, lows_u32, lows_u64, lows_i64, lows_str, allSome, allRw, blksOk_nil, blksOk_none, blksOk_some, getH_zero, getH_succ, getH_nil]
      · have hn8' : ¬ (n : Int) = 8 := by omega
        have hg : gW n i [a, b, c, d] = [a, b, c, d] := by unfold gW; rw [if_neg hm0, if_neg (fun h => hn8 h.1)]
        simp only [go_sem, ↓reduceIte, Nat.reduceEqDiff, Nat.reduceLT, Nat.reduceLeDiff, Nat.reduceAdd, Nat.reduceSub, Nat.reduceMul, Nat.reduceMod, Nat.reduceDiv, Int.reduceLE, Int.reduceLT, Int.reduceToNat, Int.reduceAdd, Int.reduceSub, Int.reduceMul, Int.reduceEq, Int.reduceNeg, BitVec.reduceOfInt, BitVec.reduceToNat, BitVec.reduceEq, BitVec.reduceNe, BitVec.reduceLT, reduceCtorEq, List.forall_mem_nil, e1, e2, hiN', hfl, z1, z2, z4, z5, z6, z7, Nat.min_self, n0, tm, hm0', hd, splice_four, hn8']
        refine go_unroll 5 ?_
        simp only [go_sem, ↓reduceIte, Nat.reduceEqDiff, Nat.reduceLT, Nat.reduceLeDiff, Nat.reduceAdd, Nat.reduceSub, Nat.reduceMul, Nat.reduceMod, Nat.reduceDiv, Int.reduceLE, Int.reduceLT, Int.reduceToNat, Int.reduceAdd, Int.reduceSub, Int.reduceMul, Int.reduceEq, Int.reduceNeg, BitVec.reduceOfInt, BitVec.reduceToNat, BitVec.reduceEq, BitVec.reduceNe, BitVec.reduceLT, reduceCtorEq, List.forall_mem_nil, y0, y1, y2, y3, y4, y5, k0, k1, k2, k3, getD_u8 k0, g0, hfl, htk, List.append_assoc, g1, g2, g3, List.take_of_length_le]
        refine ⟨⟨by omega, by omega⟩, ⟨by omega, by omega⟩, by omega, ⟨by omega, by omega⟩, ⟨by omega, by omega⟩, by omega, ⟨by omega, by omega⟩, ⟨by omega, by omega⟩, by omega, ⟨by omega, by omega⟩, ?_⟩
        refine again_ren (j - 1) ⟨[(0, .ptr 0 0), (5, .i64 n), (6, .slice 1 0 (4 * (i + 1 : Nat)) 1), (7, .u8 (p2 (((i + 1 : Nat) - 1) / n))), (8, .i64 (i + 1 : Nat))], [some ⟨false, T.map .u8⟩, some ⟨false, (wl key n (i + 1 : Nat)).flatten.map .u8⟩]⟩ [0, 10] (by omega) rfl (by simp) rfl (by decide) ?_ ?_ ⟨i + 1, by omega, by omega, rfl⟩
        · rw [show (i + 1 - 1) / n = i / n by rw [Nat.add_sub_cancel]]
          simp [slotsOk, St.get, lookS, hw1, List.length_nil, Nat.mul_add, -List.map_map, -List.map_set, vtuple_zero, rens_append, lows_append, sgOf_zero, sgOf_succ, rens, V.ren, lows, V.low, rens_u8, rens_u32, rens_u64, rens_i64, rens_str, lows_u8, lows_u32, lows_u64, lows_i64, lows_str, allSome, allRw, blksOk_nil, blksOk_none, blksOk_some, getH_zero, getH_succ, getH_nil]
        · rw [hs1, hg]
          simp [xorB, -List.map_map, -List.map_set, vtuple_zero, rens_append, lows_append, sgOf_zero, sgOf_succ, rens, V.ren, lows, V.low, rens_u8, rens_u32, rens_u64, rens_i64, rens_str, lows_u8, lows_u32, lows_u64, lows_i64, lows_str, allSome, allRw, blksOk_nil, blksOk_none, blksOk_some, getH_zero, getH_succ, getH_nil]
  · obtain rfl : i = N := by omega
    have hiN' : ¬ (i : Int) < (i : Int) := by omega
    simp only [go_sem, ↓reduceIte, Nat.reduceEqDiff, Nat.reduceLT, Nat.reduceLeDiff, Nat.reduceAdd, Nat.reduceSub, Nat.reduceMul, Nat.reduceMod, Nat.reduceDiv, Int.reduceLE, Int.reduceLT, Int.reduceToNat, Int.reduceAdd, Int.reduceSub, Int.reduceMul, Int.reduceEq, Int.reduceNeg, BitVec.reduceOfInt, BitVec.reduceToNat, BitVec.reduceEq, BitVec.reduceNe, BitVec.reduceLT, reduceCtorEq, List.forall_mem_nil, e1, e2, hiN', hfl, List.take_of_length_le]
    exact Fin.ren [0] (by simp) (by simp) (by rfl) (by decide) (by simp [-List.map_map, -List.map_set, vtuple_zero, rens_append, lows_append, sgOf_zero, sgOf_succ, rens, V.ren, lows, V.low, rens_u8, rens_u32, rens_u64, rens_i64, rens_str, lows_u8, lows_u32, lows_u64, lows_i64, lows_str, allSome, allRw, blksOk_nil, blksOk_none, blksOk_some, getH_zero, getH_succ, getH_nil]) (by simp [-List.map_map, -List.map_set, vtuple_zero, rens_append, lows_append, sgOf_zero, sgOf_succ, rens, V.ren, lows, V.low, rens_u8, rens_u32, rens_u64, rens_i64, rens_str, lows_u8, lows_u32, lows_u64, lows_i64, lows_str, allSome, allRw, blksOk_nil, blksOk_none, blksOk_some, getH_zero, getH_succ, getH_nil])
end Go.Vm
end
section
namespace Go.Vm
open Go.Proofs
set_option maxRecDepth 20000
theorem isKey_spec (key : List (BitVec 8)) : PureFn Try.prog 53 [.str key] (.bool (decide (key.length = 16 ∨ key.length = 32))) := by
  by_cases h16 : key.length = 16
  · have h1 : (key.length : Int) = 16 := by omega
    have hd : decide (key.length = 16 ∨ key.length = 32) = true := by simp [h16]
    rw [hd]
    refine pure_of_vc (by kernel_rfl) (fn := Try.f53) (by kernel_rfl) Try.func53 rfl (by show 1 ≤ 11; decide) (by simp [lows, V.low]) (by simp [lows, V.low, lows_ite, low_ite]) (go_start ?_)
    simp only [go_sem, ↓reduceIte, Nat.reduceEqDiff, Nat.reduceLT, Nat.reduceLeDiff, Nat.reduceAdd, Nat.reduceSub, Nat.reduceMul, Nat.reduceMod, Nat.reduceDiv, Int.reduceLE, Int.reduceLT, Int.reduceToNat, Int.reduceAdd, Int.reduceSub, Int.reduceMul, Int.reduceEq, Int.reduceNeg, BitVec.reduceOfInt, BitVec.reduceToNat, BitVec.reduceEq, BitVec.reduceNe, BitVec.reduceLT, reduceCtorEq, List.forall_mem_nil, Try.ntmps53, Try.results53, h1]
  · have h1 : ¬ (key.length : Int) = 16 := by omega
    by_cases h32 : key.length = 32
    · have h2 : (key.length : Int) = 32 := by omega
      have h3 : ¬ (32 : Int) = 16 := by decide
      have hd : decide (key.length = 16 ∨ key.length = 32) = true := by simp [h32]
      rw [hd]
      refine pure_of_vc (by kernel_rfl) (fn := Try.f53) (by kernel_rfl) Try.func53 rfl (by show 1 ≤ 11; decide) (by simp [lows, V.low]) (by simp [lows, V.low, lows_ite, low_ite]) (go_start ?_)
      simp only [go_sem, ↓reduceIte, Nat.reduceEqDiff, Nat.reduceLT, Nat.reduceLeDiff, Nat.reduceAdd, Nat.reduceSub, Nat.reduceMul, Nat.reduceMod, Nat.reduceDiv, Int.reduceLE, Int.reduceLT, Int.reduceToNat, Int.reduceAdd, Int.reduceSub, Int.reduceMul, Int.reduceEq, Int.reduceNeg, BitVec.reduceOfInt, BitVec.reduceToNat, BitVec.reduceEq, BitVec.reduceNe, BitVec.reduceLT, reduceCtorEq, List.forall_mem_nil, Try.ntmps53, Try.results53, h2, h3]
    · have h2 : ¬ (key.length : Int) = 32 := by omega
      have hd : decide (key.length = 16 ∨ key.length = 32) = false := by simp [h16, h32]
      rw [hd]
      refine pure_of_vc (by kernel_rfl) (fn := Try.f53) (by kernel_rfl) Try.func53 rfl (by show 1 ≤ 11; decide) (by simp [lows, V.low]) (by simp [lows, V.low, lows_ite, low_ite]) (go_start ?_)
      simp only [go_sem, ↓reduceIte, Nat.reduceEqDiff, Nat.reduceLT, Nat.reduceLeDiff, Nat.reduceAdd, Nat.reduceSub, Nat.reduceMul, Nat.reduceMod, Nat.reduceDiv, Int.reduceLE, Int.reduceLT, Int.reduceToNat, Int.reduceAdd, Int.reduceSub, Int.reduceMul, Int.reduceEq, Int.reduceNeg, BitVec.reduceOfInt, BitVec.reduceToNat, BitVec.reduceEq, BitVec.reduceNe, BitVec.reduceLT, reduceCtorEq, List.forall_mem_nil, Try.ntmps53, Try.results53, h1, h2]
theorem Expand_bad (key : List (BitVec 8)) (h : ¬ (key.length = 16 ∨ key.length = 32)) : Spec0 Try.prog 17 [.str key] [] (.tup [.str [], .i64 1]) [] := by
  have hk := isKey_spec key
  rw [decide_eq_false h] at hk
  refine spec0_of_vc (by kernel_rfl) (fn := Try.f17) Try.func17 rfl (by show 1 ≤ 10; decide) (go_start ?_)
  simp only [go_sem, ↓reduceIte, Nat.reduceEqDiff, Nat.reduceLT, Nat.reduceLeDiff, Nat.reduceAdd, Nat.reduceSub, Nat.reduceMul, Nat.reduceMod, Nat.reduceDiv, Int.reduceLE, Int.reduceLT, Int.reduceToNat, Int.reduceAdd, Int.reduceSub, Int.reduceMul, Int.reduceEq, Int.reduceNeg, BitVec.reduceOfInt, BitVec.reduceToNat, BitVec.reduceEq, BitVec.reduceNe, BitVec.reduceLT, reduceCtorEq, List.forall_mem_nil, Try.ntmps17, Try.results17]
  refine goCall_pure0 (hk) ?_
  simp only [go_sem, ↓reduceIte, Nat.reduceEqDiff, Nat.reduceLT, Nat.reduceLeDiff, Nat.reduceAdd, Nat.reduceSub, Nat.reduceMul, Nat.reduceMod, Nat.reduceDiv, Int.reduceLE, Int.reduceLT, Int.reduceToNat, Int.reduceAdd, Int.reduceSub, Int.reduceMul, Int.reduceEq, Int.reduceNeg, BitVec.reduceOfInt, BitVec.reduceToNat, BitVec.reduceEq, BitVec.reduceNe, BitVec.reduceLT, reduceCtorEq, List.forall_mem_nil]
  exact Fin.ren [] (by simp) (by simp) (by rfl) (by decide) (by simp [-List.map_map, -List.map_set, vtuple_zero, rens_append, lows_append, sgOf_zero, sgOf_succ, rens, V.ren, lows, V.low, rens_u8, rens_u32, rens_u64, rens_i64, rens_str, lows_u8, lows_u32, lows_u64, lows_i64, lows_str, allSome, allRw, blksOk_nil, blksOk_none, blksOk_some, getH_zero, getH_succ, getH_nil]) (by simp [-List.map_map, -List.map_set, vtuple_zero, rens_append, lows_append, sgOf_zero, sgOf_succ, rens, V.ren, lows, V.low, rens_u8, rens_u32, rens_u64, rens_i64, rens_str, lows_u8, lows_u32, lows_u64, lows_i64, lows_str, allSome, allRw, blksOk_nil, blksOk_none, blksOk_some, getH_zero, getH_succ, getH_nil])
theorem Expand_spec (key : List (BitVec 8)) (n : Nat) (hn : n = 4 ∨ n = 8) (hl : key.length = 4 * n) : Spec0 Try.prog 17 [.str key] [] (.tup [.str (wl key n (4 * (n + 7))).flatten, .i64 0]) [] := by
  have hk := isKey_spec key
  rw [decide_eq_true (by omega)] at hk
  have he := expand_spec key n hn hl
  have hm := made_spec
  generalize mkT 256 = T at *
  refine spec0_of_vc (by kernel_rfl) (fn := Try.f17) Try.func17 rfl (by show 1 ≤ 10; decide) (go_start ?_)
  simp only [go_sem, ↓reduceIte, Nat.reduceEqDiff, Nat.reduceLT, Nat.reduceLeDiff, Nat.reduceAdd, Nat.reduceSub, Nat.reduceMul, Nat.reduceMod, Nat.reduceDiv, Int.reduceLE, Int.reduceLT, Int.reduceToNat, Int.reduceAdd, Int.reduceSub, Int.reduceMul, Int.reduceEq, Int.reduceNeg, BitVec.reduceOfInt, BitVec.reduceToNat, BitVec.reduceEq, BitVec.reduceNe, BitVec.reduceLT, reduceCtorEq, List.forall_mem_nil, Try.ntmps17, Try.results17]
  refine goCall_pure0 (hk) ?_
  simp only [go_sem, ↓reduceIte, Nat.reduceEqDiff, Nat.reduceLT, Nat.reduceLeDiff, Nat.reduceAdd, Nat.reduceSub, Nat.reduceMul, Nat.reduceMod, Nat.reduceDiv, Int.reduceLE, Int.reduceLT, Int.reduceToNat, Int.reduceAdd, Int.reduceSub, Int.reduceMul, Int.reduceEq, Int.reduceNeg, BitVec.reduceOfInt, BitVec.reduceToNat, BitVec.reduceEq, BitVec.reduceNe, BitVec.reduceLT, reduceCtorEq, List.forall_mem_nil]
  refine goCall_mem [] (hm) (by kernel_rfl) (by simp [-List.map_map, -List.map_set, vtuple_zero, rens_append, lows_append, sgOf_zero, sgOf_succ, rens, V.ren, lows, V.low, rens_u8, rens_u32, rens_u64, rens_i64, rens_str, lows_u8, lows_u32, lows_u64, lows_i64, lows_str, allSome, allRw, blksOk_nil, blksOk_none, blksOk_some, getH_zero, getH_succ, getH_nil]) rfl (by simp [-List.map_map, -List.map_set, vtuple_zero, rens_append, lows_append, sgOf_zero, sgOf_succ, rens, V.ren, lows, V.low, rens_u8, rens_u32, rens_u64, rens_i64, rens_str, lows_u8, lows_u32, lows_u64, lows_i64, lows_str, allSome, allRw, blksOk_nil, blksOk_none, blksOk_some, getH_zero, getH_succ, getH_nil]) (by decide) (by simp [-List.map_map, -List.map_set, vtuple_zero, rens_append, lows_append, sgOf_zero, sgOf_succ, rens, V.ren, lows, V.low, rens_u8, rens_u32, rens_u64, rens_i64, rens_str, lows_u8, lows_u32, lows_u64, lows_i64, lows_str, allSome, allRw, blksOk_nil, blksOk_none, blksOk_some, getH_zero, getH_succ, getH_nil]) (by simp [-List.map_map, -List.map_set, vtuple_zero, rens_append, lows_append, sgOf_zero, sgOf_succ, rens, V.ren, lows, V.low, rens_u8, rens_u32, rens_u64, rens_i64, rens_str, lows_u8, lows_u32, lows_u64, lows_i64, lows_str, allSome, allRw, blksOk_nil, blksOk_none, blksOk_some, getH_zero, getH_succ, getH_nil]) (by simp [-List.map_map, -List.map_set, vtuple_zero, rens_append, lows_append, sgOf_zero, sgOf_succ, rens, V.ren, lows, V.low, rens_u8, rens_u32, rens_u64, rens_i64, rens_str, lows_u8, lows_u32, lows_u64, lows_i64, lows_str, allSome, allRw, blksOk_nil, blksOk_none, blksOk_some, getH_zero, getH_succ, getH_nil]) (by simp [-List.map_map, -List.map_set, vtuple_zero, rens_append, lows_append, sgOf_zero, sgOf_succ, rens, V.ren, lows, V.low, rens_u8, rens_u32, rens_u64, rens_i64, rens_str, lows_u8, lows_u32, lows_u64, lows_i64, lows_str, allSome, allRw, blksOk_nil, blksOk_none, blksOk_some, getH_zero, getH_succ, getH_nil]) (by simp) ?_
  simp only [go_sem, ↓reduceIte, Nat.reduceEqDiff, Nat.reduceLT, Nat.reduceLeDiff, Nat.reduceAdd, Nat.reduceSub, Nat.reduceMul, Nat.reduceMod, Nat.reduceDiv, Int.reduceLE, Int.reduceLT, Int.reduceToNat, Int.reduceAdd, Int.reduceSub, Int.reduceMul, Int.reduceEq, Int.reduceNeg, BitVec.reduceOfInt, BitVec.reduceToNat, BitVec.reduceEq, BitVec.reduceNe, BitVec.reduceLT, reduceCtorEq, List.forall_mem_nil]
  refine goCall_mem [0] (he) (by kernel_rfl) (by simp [-List.map_map, -List.map_set, vtuple_zero, rens_append, lows_append, sgOf_zero, sgOf_succ, rens, V.ren, lows, V.low, rens_u8, rens_u32, rens_u64, rens_i64, rens_str, lows_u8, lows_u32, lows_u64, lows_i64, lows_str, allSome, allRw, blksOk_nil, blksOk_none, blksOk_some, getH_zero, getH_succ, getH_nil]) rfl (by simp [-List.map_map, -List.map_set, vtuple_zero, rens_append, lows_append, sgOf_zero, sgOf_succ, rens, V.ren, lows, V.low, rens_u8, rens_u32, rens_u64, rens_i64, rens_str, lows_u8, lows_u32, lows_u64, lows_i64, lows_str, allSome, allRw, blksOk_nil, blksOk_none, blksOk_some, getH_zero, getH_succ, getH_nil]) (by decide) (by simp [-List.map_map, -List.map_set, vtuple_zero, rens_append, lows_append, sgOf_zero, sgOf_succ, rens, V.ren, lows, V.low, rens_u8, rens_u32, rens_u64, rens_i64, rens_str, lows_u8, lows_u32, lows_u64, lows_i64, lows_str, allSome, allRw, blksOk_nil, blksOk_none, blksOk_some, getH_zero, getH_succ, getH_nil]) (by simp [-List.map_map, -List.map_set, vtuple_zero, rens_append, lows_append, sgOf_zero, sgOf_succ, rens, V.ren, lows, V.low, rens_u8, rens_u32, rens_u64, rens_i64, rens_str, lows_u8, lows_u32, lows_u64, lows_i64, lows_str, allSome, allRw, blksOk_nil, blksOk_none, blksOk_some, getH_zero, getH_succ, getH_nil]) (by simp [-List.map_map, -List.map_set, vtuple_zero, rens_append, lows_append, sgOf_zero, sgOf_succ, rens, V.ren, lows, V.low, rens_u8, rens_u32, rens_u64, rens_i64, rens_str, lows_u8, lows_u32, lows_u64, lows_i64, lows_str, allSome, allRw, blksOk_nil, blksOk_none, blksOk_some, getH_zero, getH_succ, getH_nil]) (by simp [-List.map_map, -List.map_set, vtuple_zero, rens_append, lows_append, sgOf_zero, sgOf_succ, rens, V.ren, lows, V.low, rens_u8, rens_u32, rens_u64, rens_i64, rens_str, lows_u8, lows_u32, lows_u64, lows_i64, lows_str, allSome, allRw, blksOk_nil, blksOk_none, blksOk_some, getH_zero, getH_succ, getH_nil]) (by simp) ?_
  simp only [go_sem, ↓reduceIte, Nat.reduceEqDiff, Nat.reduceLT, Nat.reduceLeDiff, Nat.reduceAdd, Nat.reduceSub, Nat.reduceMul, Nat.reduceMod, Nat.reduceDiv, Int.reduceLE, Int.reduceLT, Int.reduceToNat, Int.reduceAdd, Int.reduceSub, Int.reduceMul, Int.reduceEq, Int.reduceNeg, BitVec.reduceOfInt, BitVec.reduceToNat, BitVec.reduceEq, BitVec.reduceNe, BitVec.reduceLT, reduceCtorEq, List.forall_mem_nil]
  exact Fin.ren [] (by simp) (by simp) (by rfl) (by decide) (by simp [-List.map_map, -List.map_set, vtuple_zero, rens_append, lows_append, sgOf_zero, sgOf_succ, rens, V.ren, lows, V.low, rens_u8, rens_u32, rens_u64, rens_i64, rens_str, lows_u8, lows_u32, lows_u64, lows_i64, lows_str, allSome, allRw, blksOk_nil, blksOk_none, blksOk_some, getH_zero, getH_succ, getH_nil]) (by simp [-List.map_map, -List.map_set, vtuple_zero, rens_append, lows_append, sgOf_zero, sgOf_succ, rens, V.ren, lows, V.low, rens_u8, rens_u32, rens_u64, rens_i64, rens_str, lows_u8, lows_u32, lows_u64, lows_i64, lows_str, allSome, allRw, blksOk_nil, blksOk_none, blksOk_some, getH_zero, getH_succ, getH_nil])
theorem RExpand_bad (key : List (BitVec 8)) (h : ¬ (key.length = 16 ∨ key.length = 32)) : Spec0 Try.prog 18 [.str key] [] (.tup [.str [], .i64 1]) [] := by
  have hk := AesOf_bad key h
  refine spec0_of_vc (by kernel_rfl) (fn := Try.f18) Try.func18 rfl (by show 1 ≤ 16; decide) (go_start ?_)
  simp only [go_sem, ↓reduceIte, Nat.reduceEqDiff, Nat.reduceLT, Nat.reduceLeDiff, Nat.reduceAdd, Nat.reduceSub, Nat.reduceMul, Nat.reduceMod, Nat.reduceDiv, Int.reduceLE, Int.reduceLT, Int.reduceToNat, Int.reduceAdd, Int.reduceSub, Int.reduceMul, Int.reduceEq, Int.reduceNeg, BitVec.reduceOfInt, BitVec.reduceToNat, BitVec.reduceEq, BitVec.reduceNe, BitVec.reduceLT, reduceCtorEq, List.forall_mem_nil, Try.ntmps18, Try.results18]
  refine goCall_mem [] (hk) (by kernel_rfl) (by simp [-List.map_map, -List.map_set, vtuple_zero, rens_append, lows_append, sgOf_zero, sgOf_succ, rens, V.ren, lows, V.low, rens_u8, rens_u32, rens_u64, rens_i64, rens_str, lows_u8, lows_u32, lows_u64, lows_i64, lows_str, allSome, allRw, blksOk_nil, blksOk_none, blksOk_some, getH_zero, getH_succ, getH_nil]) rfl (by simp [-List.map_map, -List.map_set, vtuple_zero, rens_append, lows_append, sgOf_zero, sgOf_succ, rens, V.ren, lows, V.low, rens_u8, rens_u32, rens_u64, rens_i64, rens_str, lows_u8, lows_u32, lows_u64, lows_i64, lows_str, allSome, allRw, blksOk_nil, blksOk_none, blksOk_some, getH_zero, getH_succ, getH_nil]) (by decide) (by simp [-List.map_map, -List.map_set, vtuple_zero, rens_append, lows_append, sgOf_zero, sgOf_succ, rens, V.ren, lows, V.low, rens_u8, rens_u32, rens_u64, rens_i64, rens_str, lows_u8, lows_u32, lows_u64, lows_i64, lows_str, allSome, allRw, blksOk_nil, blksOk_none, blksOk_some, getH_zero, getH_succ, getH_nil]) (by simp [-List.map_map, -List.map_set, vtuple_zero, rens_append, lows_append, sgOf_zero, sgOf_succ, rens, V.ren, lows, V.low, rens_u8, rens_u32, rens_u64, rens_i64, rens_str, lows_u8, lows_u32, lows_u64, lows_i64, lows_str, allSome, allRw, blksOk_nil, blksOk_none, blksOk_some, getH_zero, getH_succ, getH_nil]) (by simp [-List.map_map, -List.map_set, vtuple_zero, rens_append, lows_append, sgOf_zero, sgOf_succ, rens, V.ren, lows, V.low, rens_u8, rens_u32, rens_u64, rens_i64, rens_str, lows_u8, lows_u32, lows_u64, lows_i64, lows_str, allSome, allRw, blksOk_nil, blksOk_none, blksOk_some, getH_zero, getH_succ, getH_nil]) (by simp [-List.map_map, -List.map_set, vtuple_zero, rens_append, lows_append, sgOf_zero, sgOf_succ, rens, V.ren, lows, V.low, rens_u8, rens_u32, rens_u64, rens_i64, rens_str, lows_u8, lows_u32, lows_u64, lows_i64, lows_str, allSome, allRw, blksOk_nil, blksOk_none, blksOk_some, getH_zero, getH_succ, getH_nil]) (by simp) ?_
  simp only [go_sem, ↓reduceIte, Nat.reduceEqDiff, Nat.reduceLT, Nat.reduceLeDiff, Nat.reduceAdd, Nat.reduceSub, Nat.reduceMul, Nat.reduceMod, Nat.reduceDiv, Int.reduceLE, Int.reduceLT, Int.reduceToNat, Int.reduceAdd, Int.reduceSub, Int.reduceMul, Int.reduceEq, Int.reduceNeg, BitVec.reduceOfInt, BitVec.reduceToNat, BitVec.reduceEq, BitVec.reduceNe, BitVec.reduceLT, reduceCtorEq, List.forall_mem_nil]
  exact Fin.ren [] (by simp) (by simp) (by rfl) (by decide) (by simp [-List.map_map, -List.map_set, vtuple_zero, rens_append, lows_append, sgOf_zero, sgOf_succ, rens, V.ren, lows, V.low, rens_u8, rens_u32, rens_u64, rens_i64, rens_str, lows_u8, lows_u32, lows_u64, lows_i64, lows_str, allSome, allRw, blksOk_nil, blksOk_none, blksOk_some, getH_zero, getH_succ, getH_nil]) (by simp [-List.map_map, -List.map_set, vtuple_zero, rens_append, lows_append, sgOf_zero, sgOf_succ, rens, V.ren, lows, V.low, rens_u8, rens_u32, rens_u64, rens_i64, rens_str, lows_u8, lows_u32, lows_u64, lows_i64, lows_str, allSome, allRw, blksOk_nil, blksOk_none, blksOk_some, getH_zero, getH_succ, getH_nil])
theorem RExpand_spec (key : List (BitVec 8)) (n : Nat) (hn : n = 4 ∨ n = 8) (hl : key.length = 4 * n) : Spec0 Try.prog 18 [.str key] [] (.tup [.str (wl key n (4 * (n + 7))).flatten, .i64 0]) [] := by
  have hk := AesOf_spec key n hn hl
  have hwl := wl_length key n (4 * (n + 7))
  have hj := Join_spec (wl key n (4 * (n + 7))) (by omega) (by rw [wl_flat key n (by omega) hl]; omega) (by intro h; rw [h] at hwl; simp at hwl)
  rw [hwl] at hj
  generalize outS 255 = T at *
  generalize 4 * (n + 7) = N at *
  generalize wl key n N = ws at *
  refine spec0_of_vc (by kernel_rfl) (fn := Try.f18) Try.func18 rfl (by show 1 ≤ 16; decide) (go_start ?_)
  simp only [go_sem, ↓reduceIte, Nat.reduceEqDiff, Nat.reduceLT, Nat.reduceLeDiff, Nat.reduceAdd, Nat.reduceSub, Nat.reduceMul, Nat.reduceMod, Nat.reduceDiv, Int.reduceLE, Int.reduceLT, Int.reduceToNat, Int.reduceAdd, Int.reduceSub, Int.reduceMul, Int.reduceEq, Int.reduceNeg, BitVec.reduceOfInt, BitVec.reduceToNat, BitVec.reduceEq, BitVec.reduceNe, BitVec.reduceLT, reduceCtorEq, List.forall_mem_nil, Try.ntmps18, Try.results18]
  refine goCall_mem [] (hk) (by kernel_rfl) (by simp [-List.map_map, -List.map_set, vtuple_zero, rens_append, lows_append, sgOf_zero, sgOf_succ, rens, V.ren, lows, V.low, rens_u8, rens_u32, rens_u64, rens_i64, rens_str, lows_u8, lows_u32, lows_u64, lows_i64, lows_str, allSome, allRw, blksOk_nil, blksOk_none, blksOk_some, getH_zero, getH_succ, getH_nil]) rfl (by simp [-List.map_map, -List.map_set, vtuple_zero, rens_append, lows_append, sgOf_zero, sgOf_succ, rens, V.ren, lows, V.low, rens_u8, rens_u32, rens_u64, rens_i64, rens_str, lows_u8, lows_u32, lows_u64, lows_i64, lows_str, allSome, allRw, blksOk_nil, blksOk_none, blksOk_some, getH_zero, getH_succ, getH_nil]) (by decide) (by simp [-List.map_map, -List.map_set, vtuple_zero, rens_append, lows_append, sgOf_zero, sgOf_succ, rens, V.ren, lows, V.low, rens_u8, rens_u32, rens_u64, rens_i64, rens_str, lows_u8, lows_u32, lows_u64, lows_i64, lows_str, allSome, allRw, blksOk_nil, blksOk_none, blksOk_some, getH_zero, getH_succ, getH_nil]) (by simp [-List.map_map, -List.map_set, vtuple_zero, rens_append, lows_append, sgOf_zero, sgOf_succ, rens, V.ren, lows, V.low, rens_u8, rens_u32, rens_u64, rens_i64, rens_str, lows_u8, lows_u32, lows_u64, lows_i64, lows_str, allSome, allRw, blksOk_nil, blksOk_none, blksOk_some, getH_zero, getH_succ, getH_nil]) (by simp [-List.map_map, -List.map_set, vtuple_zero, rens_append, lows_append, sgOf_zero, sgOf_succ, rens, V.ren, lows, V.low, rens_u8, rens_u32, rens_u64, rens_i64, rens_str, lows_u8, lows_u32, lows_u64, lows_i64, lows_str, allSome, allRw, blksOk_nil, blksOk_none, blksOk_some, getH_zero, getH_succ, getH_nil]) (by simp [-List.map_map, -List.map_set, vtuple_zero, rens_append, lows_append, sgOf_zero, sgOf_succ, rens, V.ren, lows, V.low, rens_u8, rens_u32, rens_u64, rens_i64, rens_str, lows_u8, lows_u32, lows_u64, lows_i64, lows_str, allSome, allRw, blksOk_nil, blksOk_none, blksOk_some, getH_zero, getH_succ, getH_nil]) (by simp) ?_
  simp only [go_sem, ↓reduceIte, Nat.reduceEqDiff, Nat.reduceLT, Nat.reduceLeDiff, Nat.reduceAdd, Nat.reduceSub, Nat.reduceMul, Nat.reduceMod, Nat.reduceDiv, Int.reduceLE, Int.reduceLT, Int.reduceToNat, Int.reduceAdd, Int.reduceSub, Int.reduceMul, Int.reduceEq, Int.reduceNeg, BitVec.reduceOfInt, BitVec.reduceToNat, BitVec.reduceEq, BitVec.reduceNe, BitVec.reduceLT, reduceCtorEq, List.forall_mem_nil]
  refine goCall_mem [1] (hj) (by kernel_rfl) (by simp [-List.map_map, -List.map_set, vtuple_zero, rens_append, lows_append, sgOf_zero, sgOf_succ, rens, V.ren, lows, V.low, rens_u8, rens_u32, rens_u64, rens_i64, rens_str, lows_u8, lows_u32, lows_u64, lows_i64, lows_str, allSome, allRw, blksOk_nil, blksOk_none, blksOk_some, getH_zero, getH_succ, getH_nil]) rfl (by simp [-List.map_map, -List.map_set, vtuple_zero, rens_append, lows_append, sgOf_zero, sgOf_succ, rens, V.ren, lows, V.low, rens_u8, rens_u32, rens_u64, rens_i64, rens_str, lows_u8, lows_u32, lows_u64, lows_i64, lows_str, allSome, allRw, blksOk_nil, blksOk_none, blksOk_some, getH_zero, getH_succ, getH_nil]) (by decide) (by simp [-List.map_map, -List.map_set, vtuple_zero, rens_append, lows_append, sgOf_zero, sgOf_succ, rens, V.ren, lows, V.low, rens_u8, rens_u32, rens_u64, rens_i64, rens_str, lows_u8, lows_u32, lows_u64, lows_i64, lows_str, allSome, allRw, blksOk_nil, blksOk_none, blksOk_some, getH_zero, getH_succ, getH_nil]) (by simp [-List.map_map, -List.map_set, vtuple_zero, rens_append, lows_append, sgOf_zero, sgOf_succ, rens, V.ren, lows, V.low, rens_u8, rens_u32, rens_u64, rens_i64, rens_str, lows_u8, lows_u32, lows_u64, lows_i64, lows_str, allSome, allRw, blksOk_nil, blksOk_none, blksOk_some, getH_zero, getH_succ, getH_nil]) (by simp [-List.map_map, -List.map_set, vtuple_zero, rens_append, lows_append, sgOf_zero, sgOf_succ, rens, V.ren, lows, V.low, rens_u8, rens_u32, rens_u64, rens_i64, rens_str, lows_u8, lows_u32, lows_u64, lows_i64, lows_str, allSome, allRw, blksOk_nil, blksOk_none, blksOk_some, getH_zero, getH_succ, getH_nil]) (by simp [-List.map_map, -List.map_set, vtuple_zero, rens_append, lows_append, sgOf_zero, sgOf_succ, rens, V.ren, lows, V.low, rens_u8, rens_u32, rens_u64, rens_i64, rens_str, lows_u8, lows_u32, lows_u64, lows_i64, lows_str, allSome, allRw, blksOk_nil, blksOk_none, blksOk_some, getH_zero, getH_succ, getH_nil]) (by simp) ?_
  simp only [go_sem, ↓reduceIte, Nat.reduceEqDiff, Nat.reduceLT, Nat.reduceLeDiff, Nat.reduceAdd, Nat.reduceSub, Nat.reduceMul, Nat.reduceMod, Nat.reduceDiv, Int.reduceLE, Int.reduceLT, Int.reduceToNat, Int.reduceAdd, Int.reduceSub, Int.reduceMul, Int.reduceEq, Int.reduceNeg, BitVec.reduceOfInt, BitVec.reduceToNat, BitVec.reduceEq, BitVec.reduceNe, BitVec.reduceLT, reduceCtorEq, List.forall_mem_nil]
  exact Fin.ren [] (by simp) (by simp) (by rfl) (by decide) (by simp [-List.map_map, -List.map_set, vtuple_zero, rens_append, lows_append, sgOf_zero, sgOf_succ, rens, V.ren, lows, V.low, rens_u8, rens_u32, rens_u64, rens_i64, rens_str, lows_u8, lows_u32, lows_u64, lows_i64, lows_str, allSome, allRw, blksOk_nil, blksOk_none, blksOk_some, getH_zero, getH_succ, getH_nil]) (by simp [-List.map_map, -List.map_set, vtuple_zero, rens_append, lows_append, sgOf_zero, sgOf_succ, rens, V.ren, lows, V.low, rens_u8, rens_u32, rens_u64, rens_i64, rens_str, lows_u8, lows_u32, lows_u64, lows_i64, lows_str, allSome, allRw, blksOk_nil, blksOk_none, blksOk_some, getH_zero, getH_succ, getH_nil])
end Go.Vm
end
