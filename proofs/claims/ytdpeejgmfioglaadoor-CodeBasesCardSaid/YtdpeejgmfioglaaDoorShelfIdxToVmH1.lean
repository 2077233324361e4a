/- A part of the proof: laws of a small machine of values, or what one function answers, proved against the model; no conditions beyond those in each theorem. -/
import Derived.Shelf.Small.Strs
import Derived.Lib.Bytealg
import Derived.Test.YtdpeejgmfioglaaDoorTypesToTrA
import Derived.Test.YtdpeejgmfioglaaDoorVmI1ToBaC
import Derived.ProofKit
set_option linter.unusedVariables false
set_option linter.unusedSimpArgs false
set_option linter.unusedSectionVars false
section
namespace Go.Vm
open Go.Proofs Go.Shelf
def shelf_lays137_ren : Go.Shelf.Ren := ⟨fun | 137 => 14 | 217 => 26 | 266 => 48 | n => n, fun | 9 => 9 | 5 => 5 | 3 => 3 | n => n, fun | n => n⟩
theorem shelf_lays137 : Go.Proofs.Lays.n137 Tryd.prog shelf_lays137_ren := {
  mixed := by kernel_rfl
  f137 := Tryd.func14.trans (congrArg some (by kernel_rfl))
  f217 := Tryd.func26.trans (congrArg some (by kernel_rfl))
  f266 := Tryd.func48.trans (congrArg some (by kernel_rfl))
  t3 := Tryd.underlying3
  a3 := Tryd.isAgg3
  z3 := Tryd.sizeOf3
  v3 := Tryd.zeroValue3
  t5 := Tryd.underlying5
  a5 := Tryd.isAgg5
  z5 := Tryd.sizeOf5
  v5 := Tryd.zeroValue5
  t9 := Tryd.underlying9
  a9 := Tryd.isAgg9
  z9 := Tryd.sizeOf9
  v9 := Tryd.zeroValue9 }
open Go.RowKit in
theorem shelf_strings_IndexByte (s : ByteArray) (c : Int) (w : World) :
    Calls Tryd.prog 14 #[.string s, .int .u8 c] w fun e w' => e = .returned (.int .i64 (Lib.indexByte s.data.toList c.toNat.toUInt8)) ∧ w' = w := Any.strings_IndexByte shelf_lays137 s c w
end Go.Vm
end
section
namespace Go.Vm
open Go.Proofs
set_option maxRecDepth 20000
def ixOf : List (BitVec 8) → BitVec 8 → Int
  | [], _ => -1
  | b :: l, c => if b = c then 0 else if ixOf l c = -1 then -1 else ixOf l c + 1
theorem ixOf_lib (c : BitVec 8) : ∀ l : List UInt8, Lib.indexByte l c.toNat.toUInt8 = ixOf (l.map UInt8.toBitVec) c
  | [] => rfl
  | b :: l => by
    have hc : (c.toNat.toUInt8).toBitVec = c := by
      apply BitVec.eq_of_toNat_eq
      have := c.isLt
      simp [Nat.toUInt8]
    have hb : (b == c.toNat.toUInt8) = decide (b.toBitVec = c) := by
      by_cases h : b = c.toNat.toUInt8
      · subst h; simp [hc]
      · have : ¬ b.toBitVec = c := fun e => h (by rw [← hc] at e; exact UInt8.toBitVec_inj.1 e)
        rw [beq_eq_false_iff_ne.2 h, decide_eq_false this]
    rw [Lib.indexByte, ixOf_lib c l, hb, List.map_cons, ixOf]
    simp
theorem IndexByte_spec (s : List (BitVec 8)) (c : BitVec 8) : PureFn Tryd.prog 14 [.str s, .u8 c] (.i64 (ixOf s c)) := by
  refine pure_of_below (by kernel_rfl) (by simp [lows, V.low]) (by simp [V.low]) fun w rargs hr => ?_
  unfold VRs at hr
  obtain ⟨r1, rs, e1, h1, hr⟩ := hr
  unfold VRs at hr
  obtain ⟨r2, rs2, e2, h2, hr⟩ := hr
  unfold VRs at hr
  unfold VR at h1 h2
  obtain ⟨b, rfl, hb⟩ := h1
  subst h2 hr e2
  have ha : rargs = #[.string b, .int .u8 c.toNat] := by cases rargs; simp_all
  subst ha
  refine (shelf_strings_IndexByte b c.toNat w).mono ?_
  rintro e w' ⟨rfl, rfl⟩
  refine ⟨_, rfl, ?_, ⟨rfl, rfl, rfl, Nat.le_refl _, fun _ _ => rfl⟩⟩
  unfold VR
  rw [Int.toNat_natCast, ixOf_lib]
  show _ = Value.int .i64 (ixOf s c)
  rw [← hb]; rfl
/-- A sign's place. -/
def sgIx (c : BitVec 8) : Int := ixOf signC c
theorem sgIx_all : ∀ n : Nat, n < 256 → -1 ≤ sgIx (BitVec.ofNat 8 n) ∧ sgIx (BitVec.ofNat 8 n) < 64 := of_decide_eq_true (by kernel_rfl)
theorem sgIx_of (c : BitVec 8) : -1 ≤ sgIx c ∧ sgIx c < 64 := by
  have h := sgIx_all c.toNat c.isLt
  rwa [show BitVec.ofNat 8 c.toNat = c from BitVec.eq_of_toNat_eq (by rw [BitVec.toNat_ofNat]; have := c.isLt; omega)] at h
def suf (s : List (BitVec 8)) : List (BitVec 8) := if s.length = 0 then s else if s.drop (s.length - 1) = [61#8] then s.take (s.length - 1) else s
theorem hasSuf_spec (s : List (BitVec 8)) (hs : s.length ≤ 140737488355328) : PureFn Tryd.prog 49 [.str s, .str [61#8]] (.bool (if s.length = 0 then false else decide (s.drop (s.length - 1) = [61#8]))) := by
  by_cases h : s.length = 0
  · have h' : ¬ (1 : Int) ≤ (s.length : Int) := by omega
    rw [if_pos h]
    refine pure_of_vc (by kernel_rfl) (fn := Tryd.f49) (by kernel_rfl) Tryd.func49 rfl (by show 2 ≤ 21; decide) (by simp [lows, V.low]) (by simp [lows, V.low, lows_ite, low_ite]) (go_start ?_)
    simp only [go_sem, ↓reduceIte, Nat.reduceEqDiff, Nat.reduceLT, Nat.reduceLeDiff, Nat.reduceAdd, Nat.reduceSub, Nat.reduceMul, Nat.reduceMod, Nat.reduceDiv, Int.reduceLE, Int.reduceLT, Int.reduceToNat, Int.reduceAdd, Int.reduceSub, Int.reduceMul, Int.reduceEq, Int.reduceNeg, BitVec.reduceOfInt, BitVec.reduceToNat, BitVec.reduceEq, BitVec.reduceNe, BitVec.reduceLT, reduceCtorEq, List.forall_mem_nil, Tryd.ntmps49, Tryd.results49, h']
  · have h' : (1 : Int) ≤ (s.length : Int) := by omega
    have hw : w64 ((s.length : Int) - 1) = ((s.length - 1 : Nat) : Int) := by rw [w64_of (by omega) (by omega)]; omega
    have h0 : (0 : Int) ≤ ((s.length - 1 : Nat) : Int) := by omega
    have h1 : ((s.length - 1 : Nat) : Int) ≤ (s.length : Int) := by omega
    rw [if_neg h]
    refine pure_of_vc (by kernel_rfl) (fn := Tryd.f49) (by kernel_rfl) Tryd.func49 rfl (by show 2 ≤ 21; decide) (by simp [lows, V.low]) (by simp [lows, V.low, lows_ite, low_ite]) (go_start ?_)
    simp only [go_sem, ↓reduceIte, Nat.reduceEqDiff, Nat.reduceLT, Nat.reduceLeDiff, Nat.reduceAdd, Nat.reduceSub, Nat.reduceMul, Nat.reduceMod, Nat.reduceDiv, Int.reduceLE, Int.reduceLT, Int.reduceToNat, Int.reduceAdd, Int.reduceSub, Int.reduceMul, Int.reduceEq, Int.reduceNeg, BitVec.reduceOfInt, BitVec.reduceToNat, BitVec.reduceEq, BitVec.reduceNe, BitVec.reduceLT, reduceCtorEq, List.forall_mem_nil, Tryd.ntmps49, Tryd.results49, h', hw, h0, h1]
theorem suf0_spec (s : List (BitVec 8)) (hs : s.length ≤ 140737488355328) : PureFn Tryd.prog 27 [.str s, .str [61#8]] (.str (suf s)) := by
  have hh := hasSuf_spec s hs
  unfold suf
  by_cases h : s.length = 0
  · rw [if_pos h] at hh ⊢
    refine pure_of_vc (by kernel_rfl) (fn := Tryd.f27) (by kernel_rfl) Tryd.func27 rfl (by show 2 ≤ 16; decide) (by simp [lows, V.low]) (by simp [lows, V.low, lows_ite, low_ite]) (go_start ?_)
    simp only [go_sem, ↓reduceIte, Nat.reduceEqDiff, Nat.reduceLT, Nat.reduceLeDiff, Nat.reduceAdd, Nat.reduceSub, Nat.reduceMul, Nat.reduceMod, Nat.reduceDiv, Int.reduceLE, Int.reduceLT, Int.reduceToNat, Int.reduceAdd, Int.reduceSub, Int.reduceMul, Int.reduceEq, Int.reduceNeg, BitVec.reduceOfInt, BitVec.reduceToNat, BitVec.reduceEq, BitVec.reduceNe, BitVec.reduceLT, reduceCtorEq, List.forall_mem_nil, Tryd.ntmps27, Tryd.results27]
    refine goCall_pure0 (hh) ?_
    simp only [go_sem, ↓reduceIte, Nat.reduceEqDiff, Nat.reduceLT, Nat.reduceLeDiff, Nat.reduceAdd, Nat.reduceSub, Nat.reduceMul, Nat.reduceMod, Nat.reduceDiv, Int.reduceLE, Int.reduceLT, Int.reduceToNat, Int.reduceAdd, Int.reduceSub, Int.reduceMul, Int.reduceEq, Int.reduceNeg, BitVec.reduceOfInt, BitVec.reduceToNat, BitVec.reduceEq, BitVec.reduceNe, BitVec.reduceLT, reduceCtorEq, List.forall_mem_nil]
  · rw [if_neg h] at hh ⊢
    have hw : w64 ((s.length : Int) - 1) = ((s.length - 1 : Nat) : Int) := by rw [w64_of (by omega) (by omega)]; omega
    have h0 : (0 : Int) ≤ ((s.length - 1 : Nat) : Int) := by omega
    have h1 : ((s.length - 1 : Nat) : Int) ≤ (s.length : Int) := by omega
    by_cases hd : s.drop (s.length - 1) = [61#8]
    · rw [decide_eq_true hd] at hh
      rw [if_pos hd]
      refine pure_of_vc (by kernel_rfl) (fn := Tryd.f27) (by kernel_rfl) Tryd.func27 rfl (by show 2 ≤ 16; decide) (by simp [lows, V.low]) (by simp [lows, V.low, lows_ite, low_ite]) (go_start ?_)
      simp only [go_sem, ↓reduceIte, Nat.reduceEqDiff, Nat.reduceLT, Nat.reduceLeDiff, Nat.reduceAdd, Nat.reduceSub, Nat.reduceMul, Nat.reduceMod, Nat.reduceDiv, Int.reduceLE, Int.reduceLT, Int.reduceToNat, Int.reduceAdd, Int.reduceSub, Int.reduceMul, Int.reduceEq, Int.reduceNeg, BitVec.reduceOfInt, BitVec.reduceToNat, BitVec.reduceEq, BitVec.reduceNe, BitVec.reduceLT, reduceCtorEq, List.forall_mem_nil, Tryd.ntmps27, Tryd.results27]
      refine goCall_pure0 (hh) ?_
      simp only [go_sem, ↓reduceIte, Nat.reduceEqDiff, Nat.reduceLT, Nat.reduceLeDiff, Nat.reduceAdd, Nat.reduceSub, Nat.reduceMul, Nat.reduceMod, Nat.reduceDiv, Int.reduceLE, Int.reduceLT, Int.reduceToNat, Int.reduceAdd, Int.reduceSub, Int.reduceMul, Int.reduceEq, Int.reduceNeg, BitVec.reduceOfInt, BitVec.reduceToNat, BitVec.reduceEq, BitVec.reduceNe, BitVec.reduceLT, reduceCtorEq, List.forall_mem_nil, hw, h0, h1]
    · rw [decide_eq_false hd] at hh
      rw [if_neg hd]
      refine pure_of_vc (by kernel_rfl) (fn := Tryd.f27) (by kernel_rfl) Tryd.func27 rfl (by show 2 ≤ 16; decide) (by simp [lows, V.low]) (by simp [lows, V.low, lows_ite, low_ite]) (go_start ?_)
      simp only [go_sem, ↓reduceIte, Nat.reduceEqDiff, Nat.reduceLT, Nat.reduceLeDiff, Nat.reduceAdd, Nat.reduceSub, Nat.reduceMul, Nat.reduceMod, Nat.reduceDiv, Int.reduceLE, Int.reduceLT, Int.reduceToNat, Int.reduceAdd, Int.reduceSub, Int.reduceMul, Int.reduceEq, Int.reduceNeg, BitVec.reduceOfInt, BitVec.reduceToNat, BitVec.reduceEq, BitVec.reduceNe, BitVec.reduceLT, reduceCtorEq, List.forall_mem_nil, Tryd.ntmps27, Tryd.results27]
      refine goCall_pure0 (hh) ?_
      simp only [go_sem, ↓reduceIte, Nat.reduceEqDiff, Nat.reduceLT, Nat.reduceLeDiff, Nat.reduceAdd, Nat.reduceSub, Nat.reduceMul, Nat.reduceMod, Nat.reduceDiv, Int.reduceLE, Int.reduceLT, Int.reduceToNat, Int.reduceAdd, Int.reduceSub, Int.reduceMul, Int.reduceEq, Int.reduceNeg, BitVec.reduceOfInt, BitVec.reduceToNat, BitVec.reduceEq, BitVec.reduceNe, BitVec.reduceLT, reduceCtorEq, List.forall_mem_nil]
theorem suf_length (s : List (BitVec 8)) : (suf s).length ≤ s.length := by
  unfold suf
  split
  · exact Nat.le_refl _
  · split
    · rw [List.length_take]; omega
    · exact Nat.le_refl _
theorem Suf_spec (s : List (BitVec 8)) (hs : s.length ≤ 140737488355328) : PureFn Tryd.prog 15 [.str s, .str [61#8]] (.str (suf s)) := by
  refine pure_of_vc (by kernel_rfl) (fn := Tryd.f15) (by kernel_rfl) Tryd.func15 rfl (by show 2 ≤ 8; decide) (by simp [lows, V.low]) (by simp [lows, V.low, lows_ite, low_ite]) (go_start ?_)
  simp only [go_sem, ↓reduceIte, Nat.reduceEqDiff, Nat.reduceLT, Nat.reduceLeDiff, Nat.reduceAdd, Nat.reduceSub, Nat.reduceMul, Nat.reduceMod, Nat.reduceDiv, Int.reduceLE, Int.reduceLT, Int.reduceToNat, Int.reduceAdd, Int.reduceSub, Int.reduceMul, Int.reduceEq, Int.reduceNeg, BitVec.reduceOfInt, BitVec.reduceToNat, BitVec.reduceEq, BitVec.reduceNe, BitVec.reduceLT, reduceCtorEq, List.forall_mem_nil, Tryd.ntmps15, Tryd.results15]
  refine goCall_pure0 (suf0_spec s hs) ?_
  simp only [go_sem, ↓reduceIte, Nat.reduceEqDiff, Nat.reduceLT, Nat.reduceLeDiff, Nat.reduceAdd, Nat.reduceSub, Nat.reduceMul, Nat.reduceMod, Nat.reduceDiv, Int.reduceLE, Int.reduceLT, Int.reduceToNat, Int.reduceAdd, Int.reduceSub, Int.reduceMul, Int.reduceEq, Int.reduceNeg, BitVec.reduceOfInt, BitVec.reduceToNat, BitVec.reduceEq, BitVec.reduceNe, BitVec.reduceLT, reduceCtorEq, List.forall_mem_nil]
theorem TrimRight_spec (s : List (BitVec 8)) (hs : s.length ≤ 140737488355328) : PureFn Tryd.prog 13 [.str s, .str [61#8]] (.str (trimR 61#8 s)) := by
  by_cases h : s = []
  · subst h
    rw [show trimR 61#8 [] = [] from rfl]
    refine pure_of_vc (by kernel_rfl) (fn := Tryd.f13) (by kernel_rfl) Tryd.func13 rfl (by show 2 ≤ 37; decide) (by simp [lows, V.low]) (by simp [lows, V.low, lows_ite, low_ite]) (go_start ?_)
    simp only [go_sem, ↓reduceIte, Nat.reduceEqDiff, Nat.reduceLT, Nat.reduceLeDiff, Nat.reduceAdd, Nat.reduceSub, Nat.reduceMul, Nat.reduceMod, Nat.reduceDiv, Int.reduceLE, Int.reduceLT, Int.reduceToNat, Int.reduceAdd, Int.reduceSub, Int.reduceMul, Int.reduceEq, Int.reduceNeg, BitVec.reduceOfInt, BitVec.reduceToNat, BitVec.reduceEq, BitVec.reduceNe, BitVec.reduceLT, reduceCtorEq, List.forall_mem_nil, Tryd.ntmps13, Tryd.results13]
  · have h' := eq_false h
    refine pure_of_vc (by kernel_rfl) (fn := Tryd.f13) (by kernel_rfl) Tryd.func13 rfl (by show 2 ≤ 37; decide) (by simp [lows, V.low]) (by simp [lows, V.low, lows_ite, low_ite]) (go_start ?_)
    simp only [go_sem, ↓reduceIte, Nat.reduceEqDiff, Nat.reduceLT, Nat.reduceLeDiff, Nat.reduceAdd, Nat.reduceSub, Nat.reduceMul, Nat.reduceMod, Nat.reduceDiv, Int.reduceLE, Int.reduceLT, Int.reduceToNat, Int.reduceAdd, Int.reduceSub, Int.reduceMul, Int.reduceEq, Int.reduceNeg, BitVec.reduceOfInt, BitVec.reduceToNat, BitVec.reduceEq, BitVec.reduceNe, BitVec.reduceLT, reduceCtorEq, List.forall_mem_nil, Tryd.ntmps13, Tryd.results13, h']
    refine goCall_pure0 (trimR_spec s 61#8 hs) ?_
    simp only [go_sem, ↓reduceIte, Nat.reduceEqDiff, Nat.reduceLT, Nat.reduceLeDiff, Nat.reduceAdd, Nat.reduceSub, Nat.reduceMul, Nat.reduceMod, Nat.reduceDiv, Int.reduceLE, Int.reduceLT, Int.reduceToNat, Int.reduceAdd, Int.reduceSub, Int.reduceMul, Int.reduceEq, Int.reduceNeg, BitVec.reduceOfInt, BitVec.reduceToNat, BitVec.reduceEq, BitVec.reduceNe, BitVec.reduceLT, reduceCtorEq, List.forall_mem_nil]
/-- The signs told back: n of many bits is left over. -/
def decR : List (BitVec 8) → Nat → Nat → List (BitVec 8) → Option (List (BitVec 8))
  | [], _, _, out => some out
  | c :: r, n, m, out => if sgIx c < 0 then none else
      if 8 ≤ m + 6 then decR r ((64 * n + (sgIx c).toNat) % 2 ^ (m + 6 - 8)) (m + 6 - 8) (out ++ [BitVec.ofNat 8 ((64 * n + (sgIx c).toNat) / 2 ^ (m + 6 - 8))])
      else decR r (64 * n + (sgIx c).toNat) (m + 6) out
def fin64 (s : List (BitVec 8)) : Option (List (BitVec 8)) → List (BitVec 8) × Int
  | none => ([], 3)
  | some out => if cbase out = s then (out, 0) else ([], 3)
theorem RUnbase_spec (s : List (BitVec 8)) (hs : s.length ≤ 140737488351232) : PureFn Tryd.prog 6 [.str s] (.tup [.str (fin64 s (decR (suf (suf s)) 0 0 [])).1, .i64 (fin64 s (decR (suf (suf s)) 0 0 [])).2]) := by
  have h1 := Suf_spec s (by omega)
  have l1 := suf_length s
  have h2 := Suf_spec (suf s) (by omega)
  have l2 := suf_length (suf s)
  generalize suf (suf s) = t at *
  generalize suf s = t1 at *
  generalize hG : decR t 0 0 [] = G
  have hz : bytesOf (⟨#[61]⟩ : ByteArray) = [61#8] := rfl
  refine pure_of_vc (by kernel_rfl) (fn := Tryd.f6) (by kernel_rfl) Tryd.func6 rfl (by show 1 ≤ 49; decide) (by simp [lows, V.low]) (by simp [lows, V.low, lows_ite, low_ite]) (go_start ?_)
  simp only [go_sem, ↓reduceIte, Nat.reduceEqDiff, Nat.reduceLT, Nat.reduceLeDiff, Nat.reduceAdd, Nat.reduceSub, Nat.reduceMul, Nat.reduceMod, Nat.reduceDiv, Int.reduceLE, Int.reduceLT, Int.reduceToNat, Int.reduceAdd, Int.reduceSub, Int.reduceMul, Int.reduceEq, Int.reduceNeg, BitVec.reduceOfInt, BitVec.reduceToNat, BitVec.reduceEq, BitVec.reduceNe, BitVec.reduceLT, reduceCtorEq, List.forall_mem_nil, Tryd.ntmps6, Tryd.results6, hz]
  refine goCall_pure0 (h1) ?_
  simp only [go_sem, ↓reduceIte, Nat.reduceEqDiff, Nat.reduceLT, Nat.reduceLeDiff, Nat.reduceAdd, Nat.reduceSub, Nat.reduceMul, Nat.reduceMod, Nat.reduceDiv, Int.reduceLE, Int.reduceLT, Int.reduceToNat, Int.reduceAdd, Int.reduceSub, Int.reduceMul, Int.reduceEq, Int.reduceNeg, BitVec.reduceOfInt, BitVec.reduceToNat, BitVec.reduceEq, BitVec.reduceNe, BitVec.reduceLT, reduceCtorEq, List.forall_mem_nil, hz]
  refine goCall_pure0 (h2) ?_
  simp only [go_sem, ↓reduceIte, Nat.reduceEqDiff, Nat.reduceLT, Nat.reduceLeDiff, Nat.reduceAdd, Nat.reduceSub, Nat.reduceMul, Nat.reduceMod, Nat.reduceDiv, Int.reduceLE, Int.reduceLT, Int.reduceToNat, Int.reduceAdd, Int.reduceSub, Int.reduceMul, Int.reduceEq, Int.reduceNeg, BitVec.reduceOfInt, BitVec.reduceToNat, BitVec.reduceEq, BitVec.reduceNe, BitVec.reduceLT, reduceCtorEq, List.forall_mem_nil]
  refine ⟨by omega, ?_⟩
  refine go_loop (fun j st => ∃ (i n m : Nat) (out : List (BitVec 8)), i + j = t.length ∧ n < 2 ^ m ∧ (m = 0 ∨ m = 2 ∨ m = 4 ∨ m = 6) ∧ out.length ≤ i ∧ decR (t.drop i) n m out = G ∧
    st = ⟨[(0, .str s), (4, .str out), (5, .i64 n), (6, .i64 m), (13, .slice 0 0 t.length 1), (14, .i64 t.length), (15, .i64 i)], [some ⟨false, t.map .u8⟩]⟩) ?_ ?_
  · exact start_mk t.length ⟨[(0, .str s), (4, .str []), (5, .i64 (0 : Nat)), (6, .i64 (0 : Nat)), (13, .slice 0 0 t.length 1), (14, .i64 t.length), (15, .i64 (0 : Nat))], [some ⟨false, t.map .u8⟩]⟩ (by simp [St.get, lookS]) rfl (fun _ _ h => h) ⟨0, 0, 0, [], by omega, by decide, by omega, by simp, hG, rfl⟩
  clear hG
  rintro j st ⟨i, n, m, out, hi, hn, hm, ho, hd, rfl⟩ _
  by_cases h0 : i < t.length
  · have h0' : (i : Int) < (t.length : Int) := by omega
    have hz0 : (0 : Int) ≤ (i : Int) := by omega
    have hdr : t.drop i = t.getD i 0 :: t.drop (i + 1) := by
      rw [List.getD_eq_getElem?_getD, List.getElem?_eq_getElem h0]; exact List.drop_eq_getElem_cons h0
    rw [hdr, decR] at hd
    have hgt := getD_u8 h0
    have hix := sgIx_of (t.getD i 0)
    have hI := IndexByte_spec signC (t.getD i 0)
    rw [show ixOf signC (t.getD i 0) = sgIx (t.getD i 0) from rfl] at hI
    have hw1 : w64 ((i : Int) + 1) = ((i + 1 : Nat) : Int) := by rw [w64_of (by omega) (by omega)]; omega
    generalize t.getD i 0 = c at *
    by_cases hneg : sgIx c < 0
    · rw [if_pos hneg] at hd
      subst hd
      rw [show fin64 s none = ([], 3) from rfl]
      simp only [go_sem, ↓reduceIte, Nat.reduceEqDiff, Nat.reduceLT, Nat.reduceLeDiff, Nat.reduceAdd, Nat.reduceSub, Nat.reduceMul, Nat.reduceMod, Nat.reduceDiv, Int.reduceLE, Int.reduceLT, Int.reduceToNat, Int.reduceAdd, Int.reduceSub, Int.reduceMul, Int.reduceEq, Int.reduceNeg, BitVec.reduceOfInt, BitVec.reduceToNat, BitVec.reduceEq, BitVec.reduceNe, BitVec.reduceLT, reduceCtorEq, List.forall_mem_nil, h0', hz0, h0, hgt, sign_str]
      refine goCall_pure0 (hI) ?_
      simp only [go_sem, ↓reduceIte, Nat.reduceEqDiff, Nat.reduceLT, Nat.reduceLeDiff, Nat.reduceAdd, Nat.reduceSub, Nat.reduceMul, Nat.reduceMod, Nat.reduceDiv, Int.reduceLE, Int.reduceLT, Int.reduceToNat, Int.reduceAdd, Int.reduceSub, Int.reduceMul, Int.reduceEq, Int.reduceNeg, BitVec.reduceOfInt, BitVec.reduceToNat, BitVec.reduceEq, BitVec.reduceNe, BitVec.reduceLT, reduceCtorEq, List.forall_mem_nil, hneg]
    · rw [if_neg hneg] at hd
      obtain ⟨k, hk⟩ : ∃ k : Nat, sgIx c = k := ⟨(sgIx c).toNat, by omega⟩
      rw [hk] at hd hI hneg hix
      rw [Int.toNat_natCast] at hd
      have hk64 : k < 64 := by omega
      rcases hm with rfl | rfl | rfl | rfl
      · have hn' : n < 1 := hn
        have hN : w64 (w64 (64 * (n : Int)) + (k : Int)) = ((64 * n + k : Nat) : Int) := by rw [w64_of (n := 64 * (n : Int)) (by omega) (by omega), w64_of (by omega) (by omega)]; omega
        rw [if_neg (by decide)] at hd
        simp only [go_sem, ↓reduceIte, Nat.reduceEqDiff, Nat.reduceLT, Nat.reduceLeDiff, Nat.reduceAdd, Nat.reduceSub, Nat.reduceMul, Nat.reduceMod, Nat.reduceDiv, Int.reduceLE, Int.reduceLT, Int.reduceToNat, Int.reduceAdd, Int.reduceSub, Int.reduceMul, Int.reduceEq, Int.reduceNeg, BitVec.reduceOfInt, BitVec.reduceToNat, BitVec.reduceEq, BitVec.reduceNe, BitVec.reduceLT, reduceCtorEq, List.forall_mem_nil, h0', hz0, h0, hgt, sign_str]
        refine goCall_pure0 (hI) ?_
        simp only [go_sem, ↓reduceIte, Nat.reduceEqDiff, Nat.reduceLT, Nat.reduceLeDiff, Nat.reduceAdd, Nat.reduceSub, Nat.reduceMul, Nat.reduceMod, Nat.reduceDiv, Int.reduceLE, Int.reduceLT, Int.reduceToNat, Int.reduceAdd, Int.reduceSub, Int.reduceMul, Int.reduceEq, Int.reduceNeg, BitVec.reduceOfInt, BitVec.reduceToNat, BitVec.reduceEq, BitVec.reduceNe, BitVec.reduceLT, reduceCtorEq, List.forall_mem_nil, hneg, hN]
        exact again_mk (j - 1) ⟨[(0, .str s), (4, .str out), (5, .i64 (64 * n + k : Nat)), (6, .i64 (6 : Nat)), (13, .slice 0 0 t.length 1), (14, .i64 t.length), (15, .i64 (i + 1 : Nat))], [some ⟨false, t.map .u8⟩]⟩ (by omega) (by simp [St.get, lookS, hw1]) rfl (fun _ _ h => h) ⟨i + 1, 64 * n + k, 6, out, by omega, by omega, by omega, by omega, hd, rfl⟩
      · have hn' : n < 4 := hn
        have hN : w64 (w64 (64 * (n : Int)) + (k : Int)) = ((64 * n + k : Nat) : Int) := by rw [w64_of (n := 64 * (n : Int)) (by omega) (by omega), w64_of (by omega) (by omega)]; omega
        rw [if_pos (by decide), show 2 + 6 - 8 = 0 from rfl] at hd
        have hsh : shr64 ((64 * n + k : Nat) : Int) 0 = (((64 * n + k) / 2 ^ 0 : Nat) : Int) := by rw [shr64_nat (by omega), Nat.shiftRight_eq_div_pow]
        have hmd : ((64 * n + k : Nat) : Int).tmod 1 = (((64 * n + k) % 2 ^ 0 : Nat) : Int) := rfl
        have hsl : shl64 1 0 = 1 := by kernel_rfl
        have hbv : BitVec.ofInt 8 (((64 * n + k) / 2 ^ 0 : Nat) : Int) = BitVec.ofNat 8 ((64 * n + k) / 2 ^ 0) := BitVec.ofInt_natCast ..
        have hmb : (64 * n + k) % 2 ^ 0 < 2 ^ 0 := Nat.mod_lt _ (by decide)
        simp only [go_sem, ↓reduceIte, Nat.reduceEqDiff, Nat.reduceLT, Nat.reduceLeDiff, Nat.reduceAdd, Nat.reduceSub, Nat.reduceMul, Nat.reduceMod, Nat.reduceDiv, Int.reduceLE, Int.reduceLT, Int.reduceToNat, Int.reduceAdd, Int.reduceSub, Int.reduceMul, Int.reduceEq, Int.reduceNeg, BitVec.reduceOfInt, BitVec.reduceToNat, BitVec.reduceEq, BitVec.reduceNe, BitVec.reduceLT, reduceCtorEq, List.forall_mem_nil, h0', hz0, h0, hgt, sign_str]
        refine goCall_pure0 (hI) ?_
        simp only [go_sem, ↓reduceIte, Nat.reduceEqDiff, Nat.reduceLT, Nat.reduceLeDiff, Nat.reduceAdd, Nat.reduceSub, Nat.reduceMul, Nat.reduceMod, Nat.reduceDiv, Int.reduceLE, Int.reduceLT, Int.reduceToNat, Int.reduceAdd, Int.reduceSub, Int.reduceMul, Int.reduceEq, Int.reduceNeg, BitVec.reduceOfInt, BitVec.reduceToNat, BitVec.reduceEq, BitVec.reduceNe, BitVec.reduceLT, reduceCtorEq, List.forall_mem_nil, hneg, hN]
        refine goCall_pure0 (chr_spec _) ?_
        simp only [go_sem, ↓reduceIte, Nat.reduceEqDiff, Nat.reduceLT, Nat.reduceLeDiff, Nat.reduceAdd, Nat.reduceSub, Nat.reduceMul, Nat.reduceMod, Nat.reduceDiv, Int.reduceLE, Int.reduceLT, Int.reduceToNat, Int.reduceAdd, Int.reduceSub, Int.reduceMul, Int.reduceEq, Int.reduceNeg, BitVec.reduceOfInt, BitVec.reduceToNat, BitVec.reduceEq, BitVec.reduceNe, BitVec.reduceLT, reduceCtorEq, List.forall_mem_nil, hsh, hbv, hsl, hmd]
        refine ⟨by omega, ?_⟩
        exact again_mk (j - 1) ⟨[(0, .str s), (4, .str (out ++ [BitVec.ofNat 8 ((64 * n + k) / 2 ^ 0)])), (5, .i64 ((64 * n + k) % 2 ^ 0 : Nat)), (6, .i64 (0 : Nat)), (13, .slice 0 0 t.length 1), (14, .i64 t.length), (15, .i64 (i + 1 : Nat))], [some ⟨false, t.map .u8⟩]⟩ (by omega) (by simp [St.get, lookS, hw1]) rfl (fun _ _ h => h) ⟨i + 1, (64 * n + k) % 2 ^ 0, 0, _, by omega, hmb, by omega, by simp; omega, hd, rfl⟩
      · have hn' : n < 16 := hn
        have hN : w64 (w64 (64 * (n : Int)) + (k : Int)) = ((64 * n + k : Nat) : Int) := by rw [w64_of (n := 64 * (n : Int)) (by omega) (by omega), w64_of (by omega) (by omega)]; omega
        rw [if_pos (by decide), show 4 + 6 - 8 = 2 from rfl] at hd
        have hsh : shr64 ((64 * n + k : Nat) : Int) 2 = (((64 * n + k) / 2 ^ 2 : Nat) : Int) := by rw [shr64_nat (by omega), Nat.shiftRight_eq_div_pow]
        have hmd : ((64 * n + k : Nat) : Int).tmod 4 = (((64 * n + k) % 2 ^ 2 : Nat) : Int) := rfl
        have hsl : shl64 1 2 = 4 := by kernel_rfl
        have hbv : BitVec.ofInt 8 (((64 * n + k) / 2 ^ 2 : Nat) : Int) = BitVec.ofNat 8 ((64 * n + k) / 2 ^ 2) := BitVec.ofInt_natCast ..
        have hmb : (64 * n + k) % 2 ^ 2 < 2 ^ 2 := Nat.mod_lt _ (by decide)
        simp only [go_sem, ↓reduceIte, Nat.reduceEqDiff, Nat.reduceLT, Nat.reduceLeDiff, Nat.reduceAdd, Nat.reduceSub, Nat.reduceMul, Nat.reduceMod, Nat.reduceDiv, Int.reduceLE, Int.reduceLT, Int.reduceToNat, Int.reduceAdd, Int.reduceSub, Int.reduceMul, Int.reduceEq, Int.reduceNeg, BitVec.reduceOfInt, BitVec.reduceToNat, BitVec.reduceEq, BitVec.reduceNe, BitVec.reduceLT, reduceCtorEq, List.forall_mem_nil, h0', hz0, h0, hgt, sign_str]
        refine goCall_pure0 (hI) ?_
        simp only [go_sem, ↓reduceIte, Nat.reduceEqDiff, Nat.reduceLT, Nat.reduceLeDiff, Nat.reduceAdd, Nat.reduceSub, Nat.reduceMul, Nat.reduceMod, Nat.reduceDiv, Int.reduceLE, Int.reduceLT, Int.reduceToNat, Int.reduceAdd, Int.reduceSub, Int.reduceMul, Int.reduceEq, Int.reduceNeg, BitVec.reduceOfInt, BitVec.reduceToNat, BitVec.reduceEq, BitVec.reduceNe, BitVec.reduceLT, reduceCtorEq, List.forall_mem_nil, hneg, hN]
        refine goCall_pure0 (chr_spec _) ?_
        simp only [go_sem, ↓reduceIte, Nat.reduceEqDiff, Nat.reduceLT, Nat.reduceLeDiff, Nat.reduceAdd, Nat.reduceSub, Nat.reduceMul, Nat.reduceMod, Nat.reduceDiv, Int.reduceLE, Int.reduceLT, Int.reduceToNat, Int.reduceAdd, Int.reduceSub, Int.reduceMul, Int.reduceEq, Int.reduceNeg, BitVec.reduceOfInt, BitVec.reduceToNat, BitVec.reduceEq, BitVec.reduceNe, BitVec.reduceLT, reduceCtorEq, List.forall_mem_nil, hsh, hbv, hsl, hmd]
        refine ⟨by omega, ?_⟩
        exact again_mk (j - 1) ⟨[(0, .str s), (4, .str (out ++ [BitVec.ofNat 8 ((64 * n + k) / 2 ^ 2)])), (5, .i64 ((64 * n + k) % 2 ^ 2 : Nat)), (6, .i64 (2 : Nat)), (13, .slice 0 0 t.length 1), (14, .i64 t.length), (15, .i64 (i + 1 : Nat))], [some ⟨false, t.map .u8⟩]⟩ (by omega) (by simp [St.get, lookS, hw1]) rfl (fun _ _ h => h) ⟨i + 1, (64 * n + k) % 2 ^ 2, 2, _, by omega, hmb, by omega, by simp; omega, hd, rfl⟩
      · have hn' : n < 64 := hn
        have hN : w64 (w64 (64 * (n : Int)) + (k : Int)) = ((64 * n + k : Nat) : Int) := by rw [w64_of (n := 64 * (n : Int)) (by omega) (by omega), w64_of (by omega) (by omega)]; omega
        rw [if_pos (by decide), show 6 + 6 - 8 = 4 from rfl] at hd
        have hsh : shr64 ((64 * n + k : Nat) : Int) 4 = (((64 * n + k) / 2 ^ 4 : Nat) : Int) := by rw [shr64_nat (by omega), Nat.shiftRight_eq_div_pow]
        have hmd : ((64 * n + k : Nat) : Int).tmod 16 = (((64 * n + k) % 2 ^ 4 : Nat) : Int) := rfl
        have hsl : shl64 1 4 = 16 := by kernel_rfl
        have hbv : BitVec.ofInt 8 (((64 * n + k) / 2 ^ 4 : Nat) : Int) = BitVec.ofNat 8 ((64 * n + k) / 2 ^ 4) := BitVec.ofInt_natCast ..
        have hmb : (64 * n + k) % 2 ^ 4 < 2 ^ 4 := Nat.mod_lt _ (by decide)
        simp only [go_sem, ↓reduceIte, Nat.reduceEqDiff, Nat.reduceLT, Nat.reduceLeDiff, Nat.reduceAdd, Nat.reduceSub, Nat.reduceMul, Nat.reduceMod, Nat.reduceDiv, Int.reduceLE, Int.reduceLT, Int.reduceToNat, Int.reduceAdd, Int.reduceSub, Int.reduceMul, Int.reduceEq, Int.reduceNeg, BitVec.reduceOfInt, BitVec.reduceToNat, BitVec.reduceEq, BitVec.reduceNe, BitVec.reduceLT, reduceCtorEq, List.forall_mem_nil, h0', hz0, h0, hgt, sign_str]
        refine goCall_pure0 (hI) ?_
        simp only [go_sem, ↓reduceIte, Nat.reduceEqDiff, Nat.reduceLT, Nat.reduceLeDiff, Nat.reduceAdd, Nat.reduceSub, Nat.reduceMul, Nat.reduceMod, Nat.reduceDiv, Int.reduceLE, Int.reduceLT, Int.reduceToNat, Int.reduceAdd, Int.reduceSub, Int.reduceMul, Int.reduceEq, Int.reduceNeg, BitVec.reduceOfInt, BitVec.reduceToNat, BitVec.reduceEq, BitVec.reduceNe, BitVec.reduceLT, reduceCtorEq, List.forall_mem_nil, hneg, hN]
        refine goCall_pure0 (chr_spec _) ?_
        simp only [go_sem, ↓reduceIte, Nat.reduceEqDiff, Nat.reduceLT, Nat.reduceLeDiff, Nat.reduceAdd, Nat.reduceSub, Nat.reduceMul, Nat.reduceMod, Nat.reduceDiv, Int.reduceLE, Int.reduceLT, Int.reduceToNat, Int.reduceAdd, Int.reduceSub, Int.reduceMul, Int.reduceEq, Int.reduceNeg, BitVec.reduceOfInt, BitVec.reduceToNat, BitVec.reduceEq, BitVec.reduceNe, BitVec.reduceLT, reduceCtorEq, List.forall_mem_nil, hsh, hbv, hsl, hmd]
        refine ⟨by omega, ?_⟩
        exact again_mk (j - 1) ⟨[(0, .str s), (4, .str (out ++ [BitVec.ofNat 8 ((64 * n + k) / 2 ^ 4)])), (5, .i64 ((64 * n + k) % 2 ^ 4 : Nat)), (6, .i64 (4 : Nat)), (13, .slice 0 0 t.length 1), (14, .i64 t.length), (15, .i64 (i + 1 : Nat))], [some ⟨false, t.map .u8⟩]⟩ (by omega) (by simp [St.get, lookS, hw1]) rfl (fun _ _ h => h) ⟨i + 1, (64 * n + k) % 2 ^ 4, 4, _, by omega, hmb, by omega, by simp; omega, hd, rfl⟩
  · have h0' : ¬ (i : Int) < (t.length : Int) := by omega
    have hdn : t.drop i = [] := List.drop_of_length_le (by omega)
    rw [hdn, decR] at hd
    subst hd
    have hB := RBase_spec out (by omega)
    rw [rbase_same] at hB
    by_cases he : cbase out = s
    · have he' := eq_true he
      rw [show fin64 s (some out) = (out, 0) by simp [fin64, he]]
      simp only [go_sem, ↓reduceIte, Nat.reduceEqDiff, Nat.reduceLT, Nat.reduceLeDiff, Nat.reduceAdd, Nat.reduceSub, Nat.reduceMul, Nat.reduceMod, Nat.reduceDiv, Int.reduceLE, Int.reduceLT, Int.reduceToNat, Int.reduceAdd, Int.reduceSub, Int.reduceMul, Int.reduceEq, Int.reduceNeg, BitVec.reduceOfInt, BitVec.reduceToNat, BitVec.reduceEq, BitVec.reduceNe, BitVec.reduceLT, reduceCtorEq, List.forall_mem_nil, h0']
      refine goCall_pure0 (hB) ?_
      simp only [go_sem, ↓reduceIte, Nat.reduceEqDiff, Nat.reduceLT, Nat.reduceLeDiff, Nat.reduceAdd, Nat.reduceSub, Nat.reduceMul, Nat.reduceMod, Nat.reduceDiv, Int.reduceLE, Int.reduceLT, Int.reduceToNat, Int.reduceAdd, Int.reduceSub, Int.reduceMul, Int.reduceEq, Int.reduceNeg, BitVec.reduceOfInt, BitVec.reduceToNat, BitVec.reduceEq, BitVec.reduceNe, BitVec.reduceLT, reduceCtorEq, List.forall_mem_nil, he']
    · have he' := eq_false he
      rw [show fin64 s (some out) = ([], 3) by simp [fin64, he]]
      simp only [go_sem, ↓reduceIte, Nat.reduceEqDiff, Nat.reduceLT, Nat.reduceLeDiff, Nat.reduceAdd, Nat.reduceSub, Nat.reduceMul, Nat.reduceMod, Nat.reduceDiv, Int.reduceLE, Int.reduceLT, Int.reduceToNat, Int.reduceAdd, Int.reduceSub, Int.reduceMul, Int.reduceEq, Int.reduceNeg, BitVec.reduceOfInt, BitVec.reduceToNat, BitVec.reduceEq, BitVec.reduceNe, BitVec.reduceLT, reduceCtorEq, List.forall_mem_nil, h0']
      refine goCall_pure0 (hB) ?_
      simp only [go_sem, ↓reduceIte, Nat.reduceEqDiff, Nat.reduceLT, Nat.reduceLeDiff, Nat.reduceAdd, Nat.reduceSub, Nat.reduceMul, Nat.reduceMod, Nat.reduceDiv, Int.reduceLE, Int.reduceLT, Int.reduceToNat, Int.reduceAdd, Int.reduceSub, Int.reduceMul, Int.reduceEq, Int.reduceNeg, BitVec.reduceOfInt, BitVec.reduceToNat, BitVec.reduceEq, BitVec.reduceNe, BitVec.reduceLT, reduceCtorEq, List.forall_mem_nil, he']
end Go.Vm
end
section
namespace Go.Vm
open Go.Proofs
set_option maxRecDepth 20000
theorem nb_val (x : BitVec 32) (k : Nat) (hk : k < 64) : (x <<< 6 ||| BitVec.ofNat 32 k).toNat = 64 * (x.toNat % 67108864) + k := by
  rw [BitVec.toNat_or, BitVec.toNat_shiftLeft, BitVec.toNat_ofNat, Nat.mod_eq_of_lt (a := k) (by omega), Nat.shiftLeft_eq]
  rw [show x.toNat * 2 ^ 6 % 2 ^ 32 = (x.toNat % 67108864) <<< 6 by rw [Nat.shiftLeft_eq]; omega]
  rw [← Nat.shiftLeft_add_eq_or_of_lt (by omega : k < 2 ^ 6), Nat.shiftLeft_eq]
  omega
def unbP (s : List (BitVec 8)) : List (BitVec 8) × Int := if 0 < s.length % 4 then ([], 3) else fin64 s (decR (trimR 61#8 s) 0 0 [])
set_option maxHeartbeats 4000000 in
theorem CUnbase_spec (s : List (BitVec 8)) (hs : s.length ≤ 140737488351232) : PureFn Tryd.prog 5 [.str s] (.tup [.str (unbP s).1, .i64 (unbP s).2]) := by
  have htm : ((s.length : Int).tmod 4) = ((s.length % 4 : Nat) : Int) := rfl
  unfold unbP
  by_cases h4 : 0 < s.length % 4
  · have h4' : ((0 : Int) < ((s.length % 4 : Nat) : Int)) = True := eq_true (by omega)
    rw [if_pos h4]
    refine pure_of_vc (by kernel_rfl) (fn := Tryd.f5) (by kernel_rfl) Tryd.func5 rfl (by show 1 ≤ 52; decide) (by simp [lows, V.low]) (by simp [lows, V.low, lows_ite, low_ite]) (go_start ?_)
    simp only [go_sem, ↓reduceIte, Nat.reduceEqDiff, Nat.reduceLT, Nat.reduceLeDiff, Nat.reduceAdd, Nat.reduceSub, Nat.reduceMul, Nat.reduceMod, Nat.reduceDiv, Int.reduceLE, Int.reduceLT, Int.reduceToNat, Int.reduceAdd, Int.reduceSub, Int.reduceMul, Int.reduceEq, Int.reduceNeg, BitVec.reduceOfInt, BitVec.reduceToNat, BitVec.reduceEq, BitVec.reduceNe, BitVec.reduceLT, reduceCtorEq, List.forall_mem_nil, Tryd.ntmps5, Tryd.results5, htm, h4']
  · have h4' : ((0 : Int) < ((s.length % 4 : Nat) : Int)) = False := eq_false (by omega)
    rw [if_neg h4]
    have h1 := TrimRight_spec s (by omega)
    have l1 := trimR_length 61#8 s
    generalize trimR 61#8 s = t at *
    generalize hG : decR t 0 0 [] = G
    have hz : bytesOf (⟨#[61]⟩ : ByteArray) = [61#8] := rfl
    refine pure_of_vc (by kernel_rfl) (fn := Tryd.f5) (by kernel_rfl) Tryd.func5 rfl (by show 1 ≤ 52; decide) (by simp [lows, V.low]) (by simp [lows, V.low, lows_ite, low_ite]) (go_start ?_)
    simp only [go_sem, ↓reduceIte, Nat.reduceEqDiff, Nat.reduceLT, Nat.reduceLeDiff, Nat.reduceAdd, Nat.reduceSub, Nat.reduceMul, Nat.reduceMod, Nat.reduceDiv, Int.reduceLE, Int.reduceLT, Int.reduceToNat, Int.reduceAdd, Int.reduceSub, Int.reduceMul, Int.reduceEq, Int.reduceNeg, BitVec.reduceOfInt, BitVec.reduceToNat, BitVec.reduceEq, BitVec.reduceNe, BitVec.reduceLT, reduceCtorEq, List.forall_mem_nil, Tryd.ntmps5, Tryd.results5, htm, h4', hz]
    refine goCall_pure0 (h1) ?_
    simp only [go_sem, ↓reduceIte, Nat.reduceEqDiff, Nat.reduceLT, Nat.reduceLeDiff, Nat.reduceAdd, Nat.reduceSub, Nat.reduceMul, Nat.reduceMod, Nat.reduceDiv, Int.reduceLE, Int.reduceLT, Int.reduceToNat, Int.reduceAdd, Int.reduceSub, Int.reduceMul, Int.reduceEq, Int.reduceNeg, BitVec.reduceOfInt, BitVec.reduceToNat, BitVec.reduceEq, BitVec.reduceNe, BitVec.reduceLT, reduceCtorEq, List.forall_mem_nil]
    refine ⟨by omega, ?_⟩
    refine go_loop (fun j st => ∃ (i : Nat) (x : BitVec 32) (m : Nat) (out : List (BitVec 8)), i + j = t.length ∧ (m = 0 ∨ m = 2 ∨ m = 4 ∨ m = 6) ∧ out.length ≤ i ∧ decR (t.drop i) (x.toNat % 2 ^ m) m out = G ∧
      ((out = [] ∧ st = ⟨[(0, .str s), (4, .nilSlice), (5, .u32 x), (6, .i64 m), (16, .slice 0 0 t.length 1), (17, .i64 t.length), (18, .i64 i)], [some ⟨false, t.map .u8⟩]⟩) ∨
       (out ≠ [] ∧ st = ⟨[(0, .str s), (4, .slice 1 0 out.length 1), (5, .u32 x), (6, .i64 m), (16, .slice 0 0 t.length 1), (17, .i64 t.length), (18, .i64 i)], [some ⟨false, t.map .u8⟩, some ⟨false, out.map .u8⟩]⟩))) ?_ ?_
    · exact start_mk t.length ⟨[(0, .str s), (4, .nilSlice), (5, .u32 0#32), (6, .i64 (0 : Nat)), (16, .slice 0 0 t.length 1), (17, .i64 t.length), (18, .i64 (0 : Nat))], [some ⟨false, t.map .u8⟩]⟩ (by simp [St.get, lookS]) rfl (fun _ _ h => h) ⟨0, 0#32, 0, [], by omega, by omega, by simp, hG, .inl ⟨rfl, rfl⟩⟩
    clear hG
    rintro j st ⟨i, x, m, out, hi, hm, ho, hd, hcase⟩ _
    by_cases h0 : i < t.length
    · have h0' : (i : Int) < (t.length : Int) := by omega
      have hz0 : (0 : Int) ≤ (i : Int) := by omega
      have hdr : t.drop i = t.getD i 0 :: t.drop (i + 1) := by
        rw [List.getD_eq_getElem?_getD, List.getElem?_eq_getElem h0]; exact List.drop_eq_getElem_cons h0
      rw [hdr, decR] at hd
      have hgt := getD_u8 h0
      have hix := sgIx_of (t.getD i 0)
      have hI := IndexByte_spec signC (t.getD i 0)
      rw [show ixOf signC (t.getD i 0) = sgIx (t.getD i 0) from rfl] at hI
      have hw1 : w64 ((i : Int) + 1) = ((i + 1 : Nat) : Int) := by rw [w64_of (by omega) (by omega)]; omega
      generalize t.getD i 0 = c at *
      by_cases hneg : sgIx c < 0
      · rw [if_pos hneg] at hd
        subst hd
        rw [show fin64 s none = ([], 3) from rfl]
        rcases hcase with ⟨rfl, rfl⟩ | ⟨hne, rfl⟩
        · simp only [go_sem, ↓reduceIte, Nat.reduceEqDiff, Nat.reduceLT, Nat.reduceLeDiff, Nat.reduceAdd, Nat.reduceSub, Nat.reduceMul, Nat.reduceMod, Nat.reduceDiv, Int.reduceLE, Int.reduceLT, Int.reduceToNat, Int.reduceAdd, Int.reduceSub, Int.reduceMul, Int.reduceEq, Int.reduceNeg, BitVec.reduceOfInt, BitVec.reduceToNat, BitVec.reduceEq, BitVec.reduceNe, BitVec.reduceLT, reduceCtorEq, List.forall_mem_nil, h0', hz0, h0, hgt, sign_str]
          refine goCall_pure0 (hI) ?_
          simp only [go_sem, ↓reduceIte, Nat.reduceEqDiff, Nat.reduceLT, Nat.reduceLeDiff, Nat.reduceAdd, Nat.reduceSub, Nat.reduceMul, Nat.reduceMod, Nat.reduceDiv, Int.reduceLE, Int.reduceLT, Int.reduceToNat, Int.reduceAdd, Int.reduceSub, Int.reduceMul, Int.reduceEq, Int.reduceNeg, BitVec.reduceOfInt, BitVec.reduceToNat, BitVec.reduceEq, BitVec.reduceNe, BitVec.reduceLT, reduceCtorEq, List.forall_mem_nil, hneg]
        · simp only [go_sem, ↓reduceIte, Nat.reduceEqDiff, Nat.reduceLT, Nat.reduceLeDiff, Nat.reduceAdd, Nat.reduceSub, Nat.reduceMul, Nat.reduceMod, Nat.reduceDiv, Int.reduceLE, Int.reduceLT, Int.reduceToNat, Int.reduceAdd, Int.reduceSub, Int.reduceMul, Int.reduceEq, Int.reduceNeg, BitVec.reduceOfInt, BitVec.reduceToNat, BitVec.reduceEq, BitVec.reduceNe, BitVec.reduceLT, reduceCtorEq, List.forall_mem_nil, h0', hz0, h0, hgt, sign_str]
          refine goCall_pure0 (hI) ?_
          simp only [go_sem, ↓reduceIte, Nat.reduceEqDiff, Nat.reduceLT, Nat.reduceLeDiff, Nat.reduceAdd, Nat.reduceSub, Nat.reduceMul, Nat.reduceMod, Nat.reduceDiv, Int.reduceLE, Int.reduceLT, Int.reduceToNat, Int.reduceAdd, Int.reduceSub, Int.reduceMul, Int.reduceEq, Int.reduceNeg, BitVec.reduceOfInt, BitVec.reduceToNat, BitVec.reduceEq, BitVec.reduceNe, BitVec.reduceLT, reduceCtorEq, List.forall_mem_nil, hneg]
      · rw [if_neg hneg] at hd
        obtain ⟨k, hk⟩ : ∃ k : Nat, sgIx c = k := ⟨(sgIx c).toNat, by omega⟩
        rw [hk] at hd hI hneg hix
        rw [Int.toNat_natCast] at hd
        have hk64 : k < 64 := by omega
        have hkb : BitVec.ofInt 32 (k : Int) = BitVec.ofNat 32 k := BitVec.ofInt_natCast ..
        have hnv := nb_val x k hk64
        rcases hm with rfl | rfl | rfl | rfl
        · rw [if_neg (by decide), show 64 * (x.toNat % 2 ^ 0) + k = (x <<< 6 ||| BitVec.ofNat 32 k).toNat % 2 ^ 6 by rw [hnv]; omega] at hd
          generalize hnb : x <<< 6 ||| BitVec.ofNat 32 k = nb at *
          rcases hcase with ⟨rfl, rfl⟩ | ⟨hne, rfl⟩
          · simp only [go_sem, ↓reduceIte, Nat.reduceEqDiff, Nat.reduceLT, Nat.reduceLeDiff, Nat.reduceAdd, Nat.reduceSub, Nat.reduceMul, Nat.reduceMod, Nat.reduceDiv, Int.reduceLE, Int.reduceLT, Int.reduceToNat, Int.reduceAdd, Int.reduceSub, Int.reduceMul, Int.reduceEq, Int.reduceNeg, BitVec.reduceOfInt, BitVec.reduceToNat, BitVec.reduceEq, BitVec.reduceNe, BitVec.reduceLT, reduceCtorEq, List.forall_mem_nil, h0', hz0, h0, hgt, sign_str, hkb]
            refine goCall_pure0 (hI) ?_
            simp only [go_sem, ↓reduceIte, Nat.reduceEqDiff, Nat.reduceLT, Nat.reduceLeDiff, Nat.reduceAdd, Nat.reduceSub, Nat.reduceMul, Nat.reduceMod, Nat.reduceDiv, Int.reduceLE, Int.reduceLT, Int.reduceToNat, Int.reduceAdd, Int.reduceSub, Int.reduceMul, Int.reduceEq, Int.reduceNeg, BitVec.reduceOfInt, BitVec.reduceToNat, BitVec.reduceEq, BitVec.reduceNe, BitVec.reduceLT, reduceCtorEq, List.forall_mem_nil, hneg, hkb, hnb, List.take_of_length_le]
            exact again_mk (j - 1) ⟨[(0, .str s), (4, .nilSlice), (5, .u32 nb), (6, .i64 (6 : Nat)), (16, .slice 0 0 t.length 1), (17, .i64 t.length), (18, .i64 (i + 1 : Nat))], [some ⟨false, t.map .u8⟩]⟩ (by omega) (by simp [St.get, lookS, hw1]) rfl (fun _ _ h => h) ⟨i + 1, nb, 6, [], by omega, by omega, by simp, hd, .inl ⟨rfl, rfl⟩⟩
          · simp only [go_sem, ↓reduceIte, Nat.reduceEqDiff, Nat.reduceLT, Nat.reduceLeDiff, Nat.reduceAdd, Nat.reduceSub, Nat.reduceMul, Nat.reduceMod, Nat.reduceDiv, Int.reduceLE, Int.reduceLT, Int.reduceToNat, Int.reduceAdd, Int.reduceSub, Int.reduceMul, Int.reduceEq, Int.reduceNeg, BitVec.reduceOfInt, BitVec.reduceToNat, BitVec.reduceEq, BitVec.reduceNe, BitVec.reduceLT, reduceCtorEq, List.forall_mem_nil, h0', hz0, h0, hgt, sign_str, hkb]
            refine goCall_pure0 (hI) ?_
            simp only [go_sem, ↓reduceIte, Nat.reduceEqDiff, Nat.reduceLT, Nat.reduceLeDiff, Nat.reduceAdd, Nat.reduceSub, Nat.reduceMul, Nat.reduceMod, Nat.reduceDiv, Int.reduceLE, Int.reduceLT, Int.reduceToNat, Int.reduceAdd, Int.reduceSub, Int.reduceMul, Int.reduceEq, Int.reduceNeg, BitVec.reduceOfInt, BitVec.reduceToNat, BitVec.reduceEq, BitVec.reduceNe, BitVec.reduceLT, reduceCtorEq, List.forall_mem_nil, hneg, hkb, hnb, List.take_of_length_le]
            exact again_mk (j - 1) ⟨[(0, .str s), (4, .slice 1 0 out.length 1), (5, .u32 nb), (6, .i64 (6 : Nat)), (16, .slice 0 0 t.length 1), (17, .i64 t.length), (18, .i64 (i + 1 : Nat))], [some ⟨false, t.map .u8⟩, some ⟨false, (out).map .u8⟩]⟩ (by omega) (by simp [St.get, lookS, hw1]) rfl (fun _ _ h => h) ⟨i + 1, nb, 6, out, by omega, by omega, by omega, hd, .inr ⟨hne, rfl⟩⟩
        · rw [if_pos (by decide), show 2 + 6 - 8 = 0 from rfl] at hd
          have hby : ((x <<< 6 ||| BitVec.ofNat 32 k) >>> 0).setWidth 8 = BitVec.ofNat 8 ((64 * (x.toNat % 2 ^ 2) + k) / 2 ^ 0) := by
            apply BitVec.eq_of_toNat_eq
            rw [BitVec.toNat_setWidth, BitVec.toNat_ushiftRight, hnv, Nat.shiftRight_eq_div_pow, BitVec.toNat_ofNat]
            omega
          rw [show (64 * (x.toNat % 2 ^ 2) + k) % 2 ^ 0 = (x <<< 6 ||| BitVec.ofNat 32 k).toNat % 2 ^ 0 by rw [hnv]; omega] at hd
          generalize BitVec.ofNat 8 ((64 * (x.toNat % 2 ^ 2) + k) / 2 ^ 0) = y at *
          generalize hnb : x <<< 6 ||| BitVec.ofNat 32 k = nb at *
          rcases hcase with ⟨rfl, rfl⟩ | ⟨hne, rfl⟩
          · simp only [go_sem, ↓reduceIte, Nat.reduceEqDiff, Nat.reduceLT, Nat.reduceLeDiff, Nat.reduceAdd, Nat.reduceSub, Nat.reduceMul, Nat.reduceMod, Nat.reduceDiv, Int.reduceLE, Int.reduceLT, Int.reduceToNat, Int.reduceAdd, Int.reduceSub, Int.reduceMul, Int.reduceEq, Int.reduceNeg, BitVec.reduceOfInt, BitVec.reduceToNat, BitVec.reduceEq, BitVec.reduceNe, BitVec.reduceLT, reduceCtorEq, List.forall_mem_nil, h0', hz0, h0, hgt, sign_str, hkb]
            refine goCall_pure0 (hI) ?_
            simp only [go_sem, ↓reduceIte, Nat.reduceEqDiff, Nat.reduceLT, Nat.reduceLeDiff, Nat.reduceAdd, Nat.reduceSub, Nat.reduceMul, Nat.reduceMod, Nat.reduceDiv, Int.reduceLE, Int.reduceLT, Int.reduceToNat, Int.reduceAdd, Int.reduceSub, Int.reduceMul, Int.reduceEq, Int.reduceNeg, BitVec.reduceOfInt, BitVec.reduceToNat, BitVec.reduceEq, BitVec.reduceNe, BitVec.reduceLT, reduceCtorEq, List.forall_mem_nil, hneg, hkb, hby, hnb, List.take_of_length_le]
            refine again_ren (j - 1) ⟨[(0, .str s), (4, .slice 1 0 ([y]).length 1), (5, .u32 nb), (6, .i64 (0 : Nat)), (16, .slice 0 0 t.length 1), (17, .i64 t.length), (18, .i64 (i + 1 : Nat))], [some ⟨false, t.map .u8⟩, some ⟨false, ([y]).map .u8⟩]⟩ [0, 2] (by omega) rfl (by simp) rfl (by decide) (by simp [slotsOk, St.get, lookS, hw1, -List.map_map, -List.map_set]) (by simp [-List.map_map, -List.map_set])
              ⟨i + 1, nb, 0, [y], by omega, by omega, by simp <;> omega, hd, .inr ⟨by simp, rfl⟩⟩
          · simp only [go_sem, ↓reduceIte, Nat.reduceEqDiff, Nat.reduceLT, Nat.reduceLeDiff, Nat.reduceAdd, Nat.reduceSub, Nat.reduceMul, Nat.reduceMod, Nat.reduceDiv, Int.reduceLE, Int.reduceLT, Int.reduceToNat, Int.reduceAdd, Int.reduceSub, Int.reduceMul, Int.reduceEq, Int.reduceNeg, BitVec.reduceOfInt, BitVec.reduceToNat, BitVec.reduceEq, BitVec.reduceNe, BitVec.reduceLT, reduceCtorEq, List.forall_mem_nil, h0', hz0, h0, hgt, sign_str, hkb]
            refine goCall_pure0 (hI) ?_
            simp only [go_sem, ↓reduceIte, Nat.reduceEqDiff, Nat.reduceLT, Nat.reduceLeDiff, Nat.reduceAdd, Nat.reduceSub, Nat.reduceMul, Nat.reduceMod, Nat.reduceDiv, Int.reduceLE, Int.reduceLT, Int.reduceToNat, Int.reduceAdd, Int.reduceSub, Int.reduceMul, Int.reduceEq, Int.reduceNeg, BitVec.reduceOfInt, BitVec.reduceToNat, BitVec.reduceEq, BitVec.reduceNe, BitVec.reduceLT, reduceCtorEq, List.forall_mem_nil, hneg, hkb, hby, hnb, List.take_of_length_le]
            refine ⟨by first | omega | exact ⟨by omega, by omega⟩ | exact ⟨by omega, by omega, by omega⟩, ?_⟩
            refine again_ren (j - 1) ⟨[(0, .str s), (4, .slice 1 0 (out ++ [y]).length 1), (5, .u32 nb), (6, .i64 (0 : Nat)), (16, .slice 0 0 t.length 1), (17, .i64 t.length), (18, .i64 (i + 1 : Nat))], [some ⟨false, t.map .u8⟩, some ⟨false, (out ++ [y]).map .u8⟩]⟩ [0, 3] (by omega) rfl (by simp) rfl (by decide) (by simp [slotsOk, St.get, lookS, hw1, -List.map_map, -List.map_set]) (by simp [-List.map_map, -List.map_set])
              ⟨i + 1, nb, 0, out ++ [y], by omega, by omega, by simp <;> omega, hd, .inr ⟨by simp, rfl⟩⟩
        · rw [if_pos (by decide), show 4 + 6 - 8 = 2 from rfl] at hd
          have hby : ((x <<< 6 ||| BitVec.ofNat 32 k) >>> 2).setWidth 8 = BitVec.ofNat 8 ((64 * (x.toNat % 2 ^ 4) + k) / 2 ^ 2) := by
            apply BitVec.eq_of_toNat_eq
            rw [BitVec.toNat_setWidth, BitVec.toNat_ushiftRight, hnv, Nat.shiftRight_eq_div_pow, BitVec.toNat_ofNat]
            omega
          rw [show (64 * (x.toNat % 2 ^ 4) + k) % 2 ^ 2 = (x <<< 6 ||| BitVec.ofNat 32 k).toNat % 2 ^ 2 by rw [hnv]; omega] at hd
          generalize BitVec.ofNat 8 ((64 * (x.toNat % 2 ^ 4) + k) / 2 ^ 2) = y at *
          generalize hnb : x <<< 6 ||| BitVec.ofNat 32 k = nb at *
          rcases hcase with ⟨rfl, rfl⟩ | ⟨hne, rfl⟩
          · simp only [go_sem, ↓reduceIte, Nat.reduceEqDiff, Nat.reduceLT, Nat.reduceLeDiff, Nat.reduceAdd, Nat.reduceSub, Nat.reduceMul, Nat.reduceMod, Nat.reduceDiv, Int.reduceLE, Int.reduceLT, Int.reduceToNat, Int.reduceAdd, Int.reduceSub, Int.reduceMul, Int.reduceEq, Int.reduceNeg, BitVec.reduceOfInt, BitVec.reduceToNat, BitVec.reduceEq, BitVec.reduceNe, BitVec.reduceLT, reduceCtorEq, List.forall_mem_nil, h0', hz0, h0, hgt, sign_str, hkb]
            refine goCall_pure0 (hI) ?_
            simp only [go_sem, ↓reduceIte, Nat.reduceEqDiff, Nat.reduceLT, Nat.reduceLeDiff, Nat.reduceAdd, Nat.reduceSub, Nat.reduceMul, Nat.reduceMod, Nat.reduceDiv, Int.reduceLE, Int.reduceLT, Int.reduceToNat, Int.reduceAdd, Int.reduceSub, Int.reduceMul, Int.reduceEq, Int.reduceNeg, BitVec.reduceOfInt, BitVec.reduceToNat, BitVec.reduceEq, BitVec.reduceNe, BitVec.reduceLT, reduceCtorEq, List.forall_mem_nil, hneg, hkb, hby, hnb, List.take_of_length_le]
            refine again_ren (j - 1) ⟨[(0, .str s), (4, .slice 1 0 ([y]).length 1), (5, .u32 nb), (6, .i64 (2 : Nat)), (16, .slice 0 0 t.length 1), (17, .i64 t.length), (18, .i64 (i + 1 : Nat))], [some ⟨false, t.map .u8⟩, some ⟨false, ([y]).map .u8⟩]⟩ [0, 2] (by omega) rfl (by simp) rfl (by decide) (by simp [slotsOk, St.get, lookS, hw1, -List.map_map, -List.map_set]) (by simp [-List.map_map, -List.map_set])
              ⟨i + 1, nb, 2, [y], by omega, by omega, by simp <;> omega, hd, .inr ⟨by simp, rfl⟩⟩
          · simp only [go_sem, ↓reduceIte, Nat.reduceEqDiff, Nat.reduceLT, Nat.reduceLeDiff, Nat.reduceAdd, Nat.reduceSub, Nat.reduceMul, Nat.reduceMod, Nat.reduceDiv, Int.reduceLE, Int.reduceLT, Int.reduceToNat, Int.reduceAdd, Int.reduceSub, Int.reduceMul, Int.reduceEq, Int.reduceNeg, BitVec.reduceOfInt, BitVec.reduceToNat, BitVec.reduceEq, BitVec.reduceNe, BitVec.reduceLT, reduceCtorEq, List.forall_mem_nil, h0', hz0, h0, hgt, sign_str, hkb]
            refine goCall_pure0 (hI) ?_
            simp only [go_sem, ↓reduceIte, Nat.reduceEqDiff, Nat.reduceLT, Nat.reduceLeDiff, Nat.reduceAdd, Nat.reduceSub, Nat.reduceMul, Nat.reduceMod, Nat.reduceDiv, Int.reduceLE, Int.reduceLT, Int.reduceToNat, Int.reduceAdd, Int.reduceSub, Int.reduceMul, Int.reduceEq, Int.reduceNeg, BitVec.reduceOfInt, BitVec.reduceToNat, BitVec.reduceEq, BitVec.reduceNe, BitVec.reduceLT, reduceCtorEq, List.forall_mem_nil, hneg, hkb, hby, hnb, List.take_of_length_le]
            refine ⟨by first | omega | exact ⟨by omega, by omega⟩ | exact ⟨by omega, by omega, by omega⟩, ?_⟩
            refine again_ren (j - 1) ⟨[(0, .str s), (4, .slice 1 0 (out ++ [y]).length 1), (5, .u32 nb), (6, .i64 (2 : Nat)), (16, .slice 0 0 t.length 1), (17, .i64 t.length), (18, .i64 (i + 1 : Nat))], [some ⟨false, t.map .u8⟩, some ⟨false, (out ++ [y]).map .u8⟩]⟩ [0, 3] (by omega) rfl (by simp) rfl (by decide) (by simp [slotsOk, St.get, lookS, hw1, -List.map_map, -List.map_set]) (by simp [-List.map_map, -List.map_set])
              ⟨i + 1, nb, 2, out ++ [y], by omega, by omega, by simp <;> omega, hd, .inr ⟨by simp, rfl⟩⟩
        · rw [if_pos (by decide), show 6 + 6 - 8 = 4 from rfl] at hd
          have hby : ((x <<< 6 ||| BitVec.ofNat 32 k) >>> 4).setWidth 8 = BitVec.ofNat 8 ((64 * (x.toNat % 2 ^ 6) + k) / 2 ^ 4) := by
            apply BitVec.eq_of_toNat_eq
            rw [BitVec.toNat_setWidth, BitVec.toNat_ushiftRight, hnv, Nat.shiftRight_eq_div_pow, BitVec.toNat_ofNat]
            omega
          rw [show (64 * (x.toNat % 2 ^ 6) + k) % 2 ^ 4 = (x <<< 6 ||| BitVec.ofNat 32 k).toNat % 2 ^ 4 by rw [hnv]; omega] at hd
          generalize BitVec.ofNat 8 ((64 * (x.toNat % 2 ^ 6) + k) / 2 ^ 4) = y at *
          generalize hnb : x <<< 6 ||| BitVec.ofNat 32 k = nb at *
          rcases hcase with ⟨rfl, rfl⟩ | ⟨hne, rfl⟩
          · simp only [go_sem, ↓reduceIte, Nat.reduceEqDiff, Nat.reduceLT, Nat.reduceLeDiff, Nat.reduceAdd, Nat.reduceSub, Nat.reduceMul, Nat.reduceMod, Nat.reduceDiv, Int.reduceLE, Int.reduceLT, Int.reduceToNat, Int.reduceAdd, Int.reduceSub, Int.reduceMul, Int.reduceEq, Int.reduceNeg, BitVec.reduceOfInt, BitVec.reduceToNat, BitVec.reduceEq, BitVec.reduceNe, BitVec.reduceLT, reduceCtorEq, List.forall_mem_nil, h0', hz0, h0, hgt, sign_str, hkb]
            refine goCall_pure0 (hI) ?_
            simp only [go_sem, ↓reduceIte, Nat.reduceEqDiff, Nat.reduceLT, Nat.reduceLeDiff, Nat.reduceAdd, Nat.reduceSub, Nat.reduceMul, Nat.reduceMod, Nat.reduceDiv, Int.reduceLE, Int.reduceLT, Int.reduceToNat, Int.reduceAdd, Int.reduceSub, Int.reduceMul, Int.reduceEq, Int.reduceNeg, BitVec.reduceOfInt, BitVec.reduceToNat, BitVec.reduceEq, BitVec.reduceNe, BitVec.reduceLT, reduceCtorEq, List.forall_mem_nil, hneg, hkb, hby, hnb, List.take_of_length_le]
            refine again_ren (j - 1) ⟨[(0, .str s), (4, .slice 1 0 ([y]).length 1), (5, .u32 nb), (6, .i64 (4 : Nat)), (16, .slice 0 0 t.length 1), (17, .i64 t.length), (18, .i64 (i + 1 : Nat))], [some ⟨false, t.map .u8⟩, some ⟨false, ([y]).map .u8⟩]⟩ [0, 2] (by omega) rfl (by simp) rfl (by decide) (by simp [slotsOk, St.get, lookS, hw1, -List.map_map, -List.map_set]) (by simp [-List.map_map, -List.map_set])
              ⟨i + 1, nb, 4, [y], by omega, by omega, by simp <;> omega, hd, .inr ⟨by simp, rfl⟩⟩
          · simp only [go_sem, ↓reduceIte, Nat.reduceEqDiff, Nat.reduceLT, Nat.reduceLeDiff, Nat.reduceAdd, Nat.reduceSub, Nat.reduceMul, Nat.reduceMod, Nat.reduceDiv, Int.reduceLE, Int.reduceLT, Int.reduceToNat, Int.reduceAdd, Int.reduceSub, Int.reduceMul, Int.reduceEq, Int.reduceNeg, BitVec.reduceOfInt, BitVec.reduceToNat, BitVec.reduceEq, BitVec.reduceNe, BitVec.reduceLT, reduceCtorEq, List.forall_mem_nil, h0', hz0, h0, hgt, sign_str, hkb]
            refine goCall_pure0 (hI) ?_
            simp only [go_sem, ↓reduceIte, Nat.reduceEqDiff, Nat.reduceLT, Nat.reduceLeDiff, Nat.reduceAdd, Nat.reduceSub, Nat.reduceMul, Nat.reduceMod, Nat.reduceDiv, Int.reduceLE, Int.reduceLT, Int.reduceToNat, Int.reduceAdd, Int.reduceSub, Int.reduceMul, Int.reduceEq, Int.reduceNeg, BitVec.reduceOfInt, BitVec.reduceToNat, BitVec.reduceEq, BitVec.reduceNe, BitVec.reduceLT, reduceCtorEq, List.forall_mem_nil, hneg, hkb, hby, hnb, List.take_of_length_le]
            refine ⟨by first | omega | exact ⟨by omega, by omega⟩ | exact ⟨by omega, by omega, by omega⟩, ?_⟩
            refine again_ren (j - 1) ⟨[(0, .str s), (4, .slice 1 0 (out ++ [y]).length 1), (5, .u32 nb), (6, .i64 (4 : Nat)), (16, .slice 0 0 t.length 1), (17, .i64 t.length), (18, .i64 (i + 1 : Nat))], [some ⟨false, t.map .u8⟩, some ⟨false, (out ++ [y]).map .u8⟩]⟩ [0, 3] (by omega) rfl (by simp) rfl (by decide) (by simp [slotsOk, St.get, lookS, hw1, -List.map_map, -List.map_set]) (by simp [-List.map_map, -List.map_set])
              ⟨i + 1, nb, 4, out ++ [y], by omega, by omega, by simp <;> omega, hd, .inr ⟨by simp, rfl⟩⟩
    · have h0' : ¬ (i : Int) < (t.length : Int) := by omega
      have hdn : t.drop i = [] := List.drop_of_length_le (by omega)
      rw [hdn, decR] at hd
      subst hd
      have hB := CBase_spec out (by omega)
      by_cases he : cbase out = s
      · have he' := eq_true he
        rw [show fin64 s (some out) = (out, 0) by simp [fin64, he]]
        rcases hcase with ⟨rfl, rfl⟩ | ⟨hne, rfl⟩
        · simp only [go_sem, ↓reduceIte, Nat.reduceEqDiff, Nat.reduceLT, Nat.reduceLeDiff, Nat.reduceAdd, Nat.reduceSub, Nat.reduceMul, Nat.reduceMod, Nat.reduceDiv, Int.reduceLE, Int.reduceLT, Int.reduceToNat, Int.reduceAdd, Int.reduceSub, Int.reduceMul, Int.reduceEq, Int.reduceNeg, BitVec.reduceOfInt, BitVec.reduceToNat, BitVec.reduceEq, BitVec.reduceNe, BitVec.reduceLT, reduceCtorEq, List.forall_mem_nil, h0']
          refine goCall_pure0 (hB) ?_
          simp only [go_sem, ↓reduceIte, Nat.reduceEqDiff, Nat.reduceLT, Nat.reduceLeDiff, Nat.reduceAdd, Nat.reduceSub, Nat.reduceMul, Nat.reduceMod, Nat.reduceDiv, Int.reduceLE, Int.reduceLT, Int.reduceToNat, Int.reduceAdd, Int.reduceSub, Int.reduceMul, Int.reduceEq, Int.reduceNeg, BitVec.reduceOfInt, BitVec.reduceToNat, BitVec.reduceEq, BitVec.reduceNe, BitVec.reduceLT, reduceCtorEq, List.forall_mem_nil, he']
        · simp only [go_sem, ↓reduceIte, Nat.reduceEqDiff, Nat.reduceLT, Nat.reduceLeDiff, Nat.reduceAdd, Nat.reduceSub, Nat.reduceMul, Nat.reduceMod, Nat.reduceDiv, Int.reduceLE, Int.reduceLT, Int.reduceToNat, Int.reduceAdd, Int.reduceSub, Int.reduceMul, Int.reduceEq, Int.reduceNeg, BitVec.reduceOfInt, BitVec.reduceToNat, BitVec.reduceEq, BitVec.reduceNe, BitVec.reduceLT, reduceCtorEq, List.forall_mem_nil, h0', List.take_of_length_le]
          refine goCall_pure0 (hB) ?_
          simp only [go_sem, ↓reduceIte, Nat.reduceEqDiff, Nat.reduceLT, Nat.reduceLeDiff, Nat.reduceAdd, Nat.reduceSub, Nat.reduceMul, Nat.reduceMod, Nat.reduceDiv, Int.reduceLE, Int.reduceLT, Int.reduceToNat, Int.reduceAdd, Int.reduceSub, Int.reduceMul, Int.reduceEq, Int.reduceNeg, BitVec.reduceOfInt, BitVec.reduceToNat, BitVec.reduceEq, BitVec.reduceNe, BitVec.reduceLT, reduceCtorEq, List.forall_mem_nil, he', List.take_of_length_le]
      · have he' := eq_false he
        rw [show fin64 s (some out) = ([], 3) by simp [fin64, he]]
        rcases hcase with ⟨rfl, rfl⟩ | ⟨hne, rfl⟩
        · simp only [go_sem, ↓reduceIte, Nat.reduceEqDiff, Nat.reduceLT, Nat.reduceLeDiff, Nat.reduceAdd, Nat.reduceSub, Nat.reduceMul, Nat.reduceMod, Nat.reduceDiv, Int.reduceLE, Int.reduceLT, Int.reduceToNat, Int.reduceAdd, Int.reduceSub, Int.reduceMul, Int.reduceEq, Int.reduceNeg, BitVec.reduceOfInt, BitVec.reduceToNat, BitVec.reduceEq, BitVec.reduceNe, BitVec.reduceLT, reduceCtorEq, List.forall_mem_nil, h0']
          refine goCall_pure0 (hB) ?_
          simp only [go_sem, ↓reduceIte, Nat.reduceEqDiff, Nat.reduceLT, Nat.reduceLeDiff, Nat.reduceAdd, Nat.reduceSub, Nat.reduceMul, Nat.reduceMod, Nat.reduceDiv, Int.reduceLE, Int.reduceLT, Int.reduceToNat, Int.reduceAdd, Int.reduceSub, Int.reduceMul, Int.reduceEq, Int.reduceNeg, BitVec.reduceOfInt, BitVec.reduceToNat, BitVec.reduceEq, BitVec.reduceNe, BitVec.reduceLT, reduceCtorEq, List.forall_mem_nil, he']
        · simp only [go_sem, ↓reduceIte, Nat.reduceEqDiff, Nat.reduceLT, Nat.reduceLeDiff, Nat.reduceAdd, Nat.reduceSub, Nat.reduceMul, Nat.reduceMod, Nat.reduceDiv, Int.reduceLE, Int.reduceLT, Int.reduceToNat, Int.reduceAdd, Int.reduceSub, Int.reduceMul, Int.reduceEq, Int.reduceNeg, BitVec.reduceOfInt, BitVec.reduceToNat, BitVec.reduceEq, BitVec.reduceNe, BitVec.reduceLT, reduceCtorEq, List.forall_mem_nil, h0', List.take_of_length_le]
          refine goCall_pure0 (hB) ?_
          simp only [go_sem, ↓reduceIte, Nat.reduceEqDiff, Nat.reduceLT, Nat.reduceLeDiff, Nat.reduceAdd, Nat.reduceSub, Nat.reduceMul, Nat.reduceMod, Nat.reduceDiv, Int.reduceLE, Int.reduceLT, Int.reduceToNat, Int.reduceAdd, Int.reduceSub, Int.reduceMul, Int.reduceEq, Int.reduceNeg, BitVec.reduceOfInt, BitVec.reduceToNat, BitVec.reduceEq, BitVec.reduceNe, BitVec.reduceLT, reduceCtorEq, List.forall_mem_nil, he', List.take_of_length_le]
end Go.Vm
end
section
namespace Go.Vm
open Go.Proofs
set_option maxRecDepth 20000
theorem sign_ne (i : Nat) (h : i < 64) : signC.getD i 0 ≠ 61#8 := by
  have key : ∀ i, i < 64 → signC.getD i 0 ≠ 61#8 := of_decide_eq_true (by kernel_rfl)
  exact key i h
theorem sgn_ne (n : BitVec 32) (k : Nat) : sgn n k ≠ 61#8 := sign_ne _ (sg_lt n k)
theorem cbase_end : ∀ s : List (BitVec 8), cbase s = [] ∨ ∃ (p : List (BitVec 8)) (x y z w : BitVec 8), cbase s = p ++ [x] ++ [y] ++ [z] ++ [w] ∧ y ≠ 61#8
  | a :: b :: c :: r => by
    right
    rw [cbase]
    rcases cbase_end r with h | ⟨p, x, y, z, w, h, hy⟩
    · rw [h]
      exact ⟨[], _, _, _, _, rfl, sgn_ne _ _⟩
    · rw [h]
      exact ⟨q3 a b c ++ p, x, y, z, w, by simp [List.append_assoc], hy⟩
  | [a, b] => .inr ⟨[], sgn (n2 a b) 18, sgn (n2 a b) 12, sgn (n2 a b) 6, 61#8, by simp [cbase, q2], sgn_ne _ _⟩
  | [a] => .inr ⟨[], sgn (n1 a) 18, sgn (n1 a) 12, 61#8, 61#8, by simp [cbase, q1], sgn_ne _ _⟩
  | [] => .inl (by simp [cbase])
theorem suf_snoc (r : List (BitVec 8)) (y : BitVec 8) : suf (r ++ [y]) = if y = 61#8 then r else r ++ [y] := by
  unfold suf
  have hl : (r ++ [y]).length = r.length + 1 := by simp
  rw [if_neg (by omega), hl, Nat.add_sub_cancel, List.drop_left, List.take_left]
  by_cases h : y = 61#8
  · rw [if_pos h, if_pos (by rw [h])]
  · rw [if_neg h, if_neg (fun e => h (by injection e))]
theorem end_eq (s out : List (BitVec 8)) (h : cbase out = s) : trimR 61#8 s = suf (suf s) ∧ s.length % 4 = 0 := by
  constructor
  · subst h
    rcases cbase_end out with h | ⟨p, x, y, z, w, h, hy⟩
    · rw [h]; rfl
    · rw [h, trimR_snoc, suf_snoc]
      by_cases hw : w = 61#8
      · rw [if_pos hw, if_pos hw, trimR_snoc, suf_snoc]
        by_cases hz : z = 61#8
        · rw [if_pos hz, if_pos hz, trimR_snoc, if_neg hy]
        · rw [if_neg hz, if_neg hz]
      · rw [if_neg hw, if_neg hw, suf_snoc, if_neg hw]
  · rw [← h, cbase_length]; omega
theorem fin_bad (s : List (BitVec 8)) (X : Option (List (BitVec 8))) (h : ∀ out, cbase out ≠ s) : fin64 s X = ([], 3) := by
  cases X with
  | none => rfl
  | some out => simp [fin64, h out]
theorem unb_same (s : List (BitVec 8)) : unbP s = fin64 s (decR (suf (suf s)) 0 0 []) := by
  unfold unbP
  by_cases h : ∃ out, cbase out = s
  · obtain ⟨out, h⟩ := h
    have he := end_eq s out h
    rw [he.1, if_neg (by omega)]
  · have h' : ∀ out, cbase out ≠ s := fun out e => h ⟨out, e⟩
    rw [fin_bad s _ h', fin_bad s _ h']
    split <;> rfl
end Go.Vm
end
section
namespace Go.Vm
/-! What follows of a program's first word 'cut'. -/
theorem cut_strips : ∀ (l : List String), (l.all fun o => !("cut".toList == o.toList)) = true → ∀ r, stripLifts l ("cut".toList :: r) = ([], "cut".toList :: r)
  | [], _, r => rfl
  | o :: os, h, r => by
    rw [List.all_cons, Bool.and_eq_true] at h
    have h1 : ("cut".toList == o.toList) = false := by simpa using h.1
    rw [stripLifts, h1, if_neg (by simp)]
    exact cut_strips os h.2 r
theorem cut_lifts (r : List (List Char)) : stripLifts liftWords ("cut".toList :: r) = ([], "cut".toList :: r) := cut_strips _ (by decide +kernel) r
section
variable {P : Program} {r : List (List Char)}

theorem headLifts_of_cut (h : behindMainWord (wordsSigns P.initOrder.toList) = "cut".toList :: r) : P.headLifts = [] := by
  unfold Program.headLifts; rw [h, cut_lifts]; simp only [ite_self]
theorem make_of_cut (h : behindMainWord (wordsSigns P.initOrder.toList) = "cut".toList :: r) : P.make = some .cut := by
  unfold Program.make; rw [h]
  have e1 : ("cut".toList == "gc".toList) = false := by decide +kernel
  have e2 : ("cut".toList == "spec".toList) = false := by decide +kernel
  simp only [e1, e2, beq_self_eq_true, Bool.or_self, Bool.true_or, ↓reduceIte, Bool.false_eq_true]
theorem lifts_of_cut (h : behindMainWord (wordsSigns P.initOrder.toList) = "cut".toList :: r) : P.liftsFinal = false := by
  unfold Program.liftsFinal; rw [h, headLifts_of_cut h]
  have e1 : ("cut".toList == "carried".toList) = false := by decide +kernel
  simp only [List.head?_cons, Option.some_beq_some, e1, Bool.false_and, List.contains_nil, Bool.or_self]
theorem enter_of_cut (h : behindMainWord (wordsSigns P.initOrder.toList) = "cut".toList :: r) (h1 : P.laysLater = false) (h2 : P.bearsReflect = false) (h3 : P.doorFits [] = true) : P.mayEnter = true := by
  unfold Program.mayEnter; rw [h]
  simp only [cut_lifts, h1, h2, h3, List.head?_cons, beq_self_eq_true, Bool.not_false, Bool.or_true, Bool.and_self, Bool.and_true, List.contains_nil]
end
/-- THE CLOSED FACTS, part by part. -/
theorem facts_of {P : Program} {f : FuncId} {fn : Func} {s : ChangeSpec} {c : OpenClaim}
    (a1 : c.wf (OpenSpec.ofChange s) = true) (a2 : laidOutB P = true) (a3 : mapsRowed P = true) (a4 : fn.params.all (P.readableRec ·) = true) (a5 : namedTie P c.named s.vars = true)
    (a6 : (c.stops == []) = true) (a7 : (P.stops == []) = true) (a8 : (c.knobs == []) = true) (a9 : (P.stopKnobs == []) = true)
    (b1 : (c.inPlace == P.inPlace f) = true) (b2 : (c.unfollowed == P.unfollowed f) = true) (b3 : (c.recurses == P.recurses f) = true) (b4 : (c.named == P.varsNamed f) = true)
    (rest : ((c.maps == (fn.params.toList ++ s.plain.varTypes P).any (P.mapsRec ·)) && (c.ifaces == (fn.params.toList ++ s.plain.varTypes P).any (P.ifacesRec ·)) && (c.mapsOut == P.mapsAmong fn.resultTypes.toList) &&
      (c.loops == (fn.params.toList ++ s.plain.varTypes P).any (P.loopsFrom ·)) && (c.wideKeys == (fn.params.toList ++ s.plain.varTypes P ++ fn.resultTypes.toList).any (P.wideKeysFrom ·)) &&
      s.vars.all (P.varReadable ·) && fn.resultTypes.all (fun t => P.readableRec t && decide (t < P.types.size)) && (c.ifacesOut == fn.resultTypes.toList.any (P.ifacesRec ·)) && (c.loopsOut == fn.resultTypes.toList.any (P.loopsFrom ·))) = true)
    (d1 : (c.plainKeys == P.plainKeys) = true) (d2 : c.shortTexts.isNone = true) (d3 : P.stopsHeard = true) (d4 : P.mayEnter = true) (d5 : (c.lifted == P.liftsFinal) = true) (d6 : (P.make == some c.make) = true)
    (e1 : (c.kinds == (if c.domain.isEmpty then [] else fn.params.toList.map fun t => match P.underlying t with | some (.int k) => some k | _ => none)) = true) (e2 : (c.pinned == c.pinnedBy) = true)
    (e3 : (c.veiled == (fn.params.toList ++ s.plain.varTypes P ++ fn.resultTypes.toList).any (P.veiledRec ·)) = true) (e4 : c.veiledFits P fn.params.toList (fn.params.toList ++ s.plain.varTypes P ++ fn.resultTypes.toList) = true) :
    joinedFacts P f fn s c = true := by
  simp only [Bool.and_eq_true] at rest
  obtain ⟨⟨⟨⟨⟨⟨⟨⟨r1, r2⟩, r3⟩, r4⟩, r5⟩, r6⟩, r7⟩, r8⟩, r9⟩ := rest
  unfold joinedFacts
  simp only [a1, a2, a3, a4, a5, a6, a7, a8, a9, b1, b2, b3, b4, r1, r2, r3, r4, r5, r6, r7, r8, r9, d1, d2, d3, d4, d5, d6, e2, e3, e4, Bool.and_self, Bool.true_and, Bool.and_true]
  exact e1
end Go.Vm
end
