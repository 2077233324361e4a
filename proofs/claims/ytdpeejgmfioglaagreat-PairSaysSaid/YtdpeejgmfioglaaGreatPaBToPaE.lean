/- A part of the proof: laws of a small machine of values, or what one function answers, proved against the model; no conditions beyond those in each theorem. -/
import Derived.Test.YtdpeejgmfioglaaGreatShelfRepToAeA
import Derived.Test.YtdpeejgmfioglaaGreatVmI1ToGcD
import Derived.Test.YtdpeejgmfioglaaGreatTypesToChaR
set_option linter.unusedVariables false
set_option linter.unusedSimpArgs false
set_option linter.unusedSectionVars false
section
namespace Go.Vm
open Go.Proofs
set_option maxRecDepth 20000
/-- What gcm.Seal and gcm.Open answer. -/
def gSealR (k n l t : List (BitVec 8)) : List (BitVec 8) × Int := if gchk k n l t 2000 = 0 then (gS k n t ++ gT k n l (gS k n t), 0) else ([], gchk k n l t 2000)
def gOpenR (k n l t : List (BitVec 8)) : List (BitVec 8) × Int := if gchk k n l t 2016 = 0 then (if t.length < 16 then ([], 4) else if gT k n l (t.take (t.length - 16)) = t.drop (t.length - 16) then (gS k n (t.take (t.length - 16)), 0) else ([], 6)) else ([], gchk k n l t 2016)
theorem gSealR_spec (k n l t : List (BitVec 8)) : Spec0 Tryz.prog 132 [.str k, .str n, .str l, .str t] [] (.tup [.str (gSealR k n l t).1, .i64 (gSealR k n l t).2]) [] := by
  unfold gSealR
  by_cases h : gchk k n l t 2000 = 0
  · obtain ⟨hk, hn, hl, ht⟩ := gchk_zero k n l t 2000 h
    rw [if_pos h]
    exact gSeal_spec k n l t hk hn hl ht
  · rw [if_neg h]
    exact gSeal_bad k n l t h
theorem rgSealR_spec (k n l t : List (BitVec 8)) : Spec0 Tryz.prog 31 [.str k, .str n, .str l, .str t] [] (.tup [.str (gSealR k n l t).1, .i64 (gSealR k n l t).2]) [] := by
  unfold gSealR
  by_cases h : gchk k n l t 2000 = 0
  · obtain ⟨hk, hn, hl, ht⟩ := gchk_zero k n l t 2000 h
    rw [if_pos h]
    exact rgSeal_spec k n l t hk hn hl ht
  · rw [if_neg h]
    exact rgSeal_bad k n l t h
theorem gOpenR_spec (k n l t : List (BitVec 8)) : Spec0 Tryz.prog 131 [.str k, .str n, .str l, .str t] [] (.tup [.str (gOpenR k n l t).1, .i64 (gOpenR k n l t).2]) [] := by
  unfold gOpenR
  by_cases h : gchk k n l t 2016 = 0
  · obtain ⟨hk, hn, hl, ht⟩ := gchk_zero k n l t 2016 h
    rw [if_pos h]
    by_cases h16 : t.length < 16
    · rw [if_pos h16]
      exact gOpen_short k n l t h h16
    · rw [if_neg h16]
      have := gOpen_spec k n l t hk hn hl ht (by omega)
      by_cases hq : gT k n l (t.take (t.length - 16)) = t.drop (t.length - 16)
      · rw [if_pos hq] at this ⊢; exact this
      · rw [if_neg hq] at this ⊢; exact this
  · rw [if_neg h]
    exact gOpen_bad k n l t h
theorem rgOpenR_spec (k n l t : List (BitVec 8)) : Spec0 Tryz.prog 32 [.str k, .str n, .str l, .str t] [] (.tup [.str (gOpenR k n l t).1, .i64 (gOpenR k n l t).2]) [] := by
  unfold gOpenR
  by_cases h : gchk k n l t 2016 = 0
  · obtain ⟨hk, hn, hl, ht⟩ := gchk_zero k n l t 2016 h
    rw [if_pos h]
    by_cases h16 : t.length < 16
    · rw [if_pos h16]
      exact rgOpen_short k n l t h h16
    · rw [if_neg h16]
      have := rgOpen_spec k n l t hk hn hl ht (by omega)
      by_cases hq : gT k n l (t.take (t.length - 16)) = t.drop (t.length - 16)
      · rw [if_pos hq] at this ⊢; exact this
      · rw [if_neg hq] at this ⊢; exact this
  · rw [if_neg h]
    exact rgOpen_bad k n l t h
theorem hseal_spec (k c m t : List (BitVec 8)) : PureFn Tryz.prog 129 [.agg [], .str k, .str c, .str m, .str t] (.tup [.str (gSealR k c m t).1, .i64 (gSealR k c m t).2]) := by
  have h := pure_of_spec0 (by kernel_rfl) (by simp [lows, V.low]) (gSealR_spec k c m t)
  generalize gSealR k c m t = g at *
  refine pure_of_vc (by kernel_rfl) (fn := Tryz.f129) (by kernel_rfl) Tryz.func129 rfl (by show 5 ≤ 19; decide) (by simp [lows, V.low]) (by simp [lows, V.low]) (go_start ?_)
  simp only [go_sem, ↓reduceIte, Nat.reduceEqDiff, Nat.reduceLT, Nat.reduceAdd, reduceCtorEq, Tryz.ntmps129]
  refine goCall_pure0 (h) ?_
  simp only [go_sem, ↓reduceIte, Nat.reduceEqDiff, Nat.reduceLT]
theorem hopen_spec (k c m t : List (BitVec 8)) : PureFn Tryz.prog 128 [.agg [], .str k, .str c, .str m, .str t] (.tup [.str (gOpenR k c m t).1, .i64 (gOpenR k c m t).2]) := by
  have h := pure_of_spec0 (by kernel_rfl) (by simp [lows, V.low]) (gOpenR_spec k c m t)
  generalize gOpenR k c m t = g at *
  refine pure_of_vc (by kernel_rfl) (fn := Tryz.f128) (by kernel_rfl) Tryz.func128 rfl (by show 5 ≤ 19; decide) (by simp [lows, V.low]) (by simp [lows, V.low]) (go_start ?_)
  simp only [go_sem, ↓reduceIte, Nat.reduceEqDiff, Nat.reduceLT, Nat.reduceAdd, reduceCtorEq, Tryz.ntmps128]
  refine goCall_pure0 (h) ?_
  simp only [go_sem, ↓reduceIte, Nat.reduceEqDiff, Nat.reduceLT]
theorem nseal2 (k : List (BitVec 8)) (n : BitVec 64) (m t : List (BitVec 8)) : PureFn Tryz.prog 19 [.i64 2, .str k, .u64 n, .str m, .str t] (.tup [.str (gSealR k (nonS 2 n) m t).1, .i64 (gSealR k (nonS 2 n) m t).2]) := by
  have hn := nonG_spec n
  rw [show zero4 ++ beB n.toNat 8 = nonS 2 n from rfl] at hn
  generalize nonS 2 n = z at *
  have hs := hseal_spec k z m t
  generalize gSealR k z m t = g at *
  refine pure_of_vc (by kernel_rfl) (fn := Tryz.f19) (by kernel_rfl) Tryz.func19 rfl (by show 5 ≤ 30; decide) (by simp [lows, V.low]) (by simp [lows, V.low]) (go_start ?_)
  simp only [go_sem, ↓reduceIte, Nat.reduceLT, Nat.reduceAdd, reduceCtorEq, Tryz.ntmps19]
  refine goCall_pure0 (of2_spec) ?_
  simp only [go_sem, ↓reduceIte, Nat.reduceEqDiff, Nat.reduceLT, reduceCtorEq, of_nilIface]
  refine goInvokeD_step 127 (by kernel_rfl) ?_
  refine goCallD_pure0 (hn) ?_
  simp only [go_sem, ↓reduceIte, Nat.reduceEqDiff, Nat.reduceLT, reduceCtorEq]
  refine goResD_pos (by kernel_rfl) ?_
  simp only [go_sem, ↓reduceIte, Nat.reduceEqDiff, Nat.reduceLT]
  refine goInvokeD_step 129 (by kernel_rfl) ?_
  refine goCallD_pure0 (hs) ?_
  simp only [go_sem, ↓reduceIte, Nat.reduceEqDiff, Nat.reduceLT]
  kernel_rfl
theorem nopen2 (k : List (BitVec 8)) (n : BitVec 64) (m t : List (BitVec 8)) : PureFn Tryz.prog 23 [.i64 2, .str k, .u64 n, .str m, .str t] (.tup [.str (gOpenR k (nonS 2 n) m t).1, .i64 (gOpenR k (nonS 2 n) m t).2]) := by
  have hn := nonG_spec n
  rw [show zero4 ++ beB n.toNat 8 = nonS 2 n from rfl] at hn
  generalize nonS 2 n = z at *
  have hs := hopen_spec k z m t
  generalize gOpenR k z m t = g at *
  refine pure_of_vc (by kernel_rfl) (fn := Tryz.f23) (by kernel_rfl) Tryz.func23 rfl (by show 5 ≤ 30; decide) (by simp [lows, V.low]) (by simp [lows, V.low]) (go_start ?_)
  simp only [go_sem, ↓reduceIte, Nat.reduceLT, Nat.reduceAdd, reduceCtorEq, Tryz.ntmps23]
  refine goCall_pure0 (of2_spec) ?_
  simp only [go_sem, ↓reduceIte, Nat.reduceEqDiff, Nat.reduceLT, reduceCtorEq, of_nilIface]
  refine goInvokeD_step 127 (by kernel_rfl) ?_
  refine goCallD_pure0 (hn) ?_
  simp only [go_sem, ↓reduceIte, Nat.reduceEqDiff, Nat.reduceLT, reduceCtorEq]
  refine goResD_pos (by kernel_rfl) ?_
  simp only [go_sem, ↓reduceIte, Nat.reduceEqDiff, Nat.reduceLT]
  refine goInvokeD_step 128 (by kernel_rfl) ?_
  refine goCallD_pure0 (hs) ?_
  simp only [go_sem, ↓reduceIte, Nat.reduceEqDiff, Nat.reduceLT]
  kernel_rfl
/-- What a session's sealing and opening answer, by the suite. -/
def boxS (s : Int) (k : List (BitVec 8)) (n : BitVec 64) (t : List (BitVec 8)) : List (BitVec 8) × Int := if s = 1 then sealR k (nonS 1 n) [] t else gSealR k (nonS 2 n) [] t
def boxO (s : Int) (k : List (BitVec 8)) (n : BitVec 64) (t : List (BitVec 8)) : List (BitVec 8) × Int := if s = 1 then openR k (nonS 1 n) [] t else gOpenR k (nonS 2 n) [] t
theorem nseal_spec (s : Int) (hs : s = 1 ∨ s = 2) (k : List (BitVec 8)) (n : BitVec 64) (t : List (BitVec 8)) : PureFn Tryz.prog 19 [.i64 s, .str k, .u64 n, .str [], .str t] (.tup [.str (boxS s k n t).1, .i64 (boxS s k n t).2]) := by
  rcases hs with rfl | rfl
  · exact nseal1 k n [] t
  · exact nseal2 k n [] t
theorem nopen_spec (s : Int) (hs : s = 1 ∨ s = 2) (k : List (BitVec 8)) (n : BitVec 64) (t : List (BitVec 8)) : PureFn Tryz.prog 23 [.i64 s, .str k, .u64 n, .str [], .str t] (.tup [.str (boxO s k n t).1, .i64 (boxO s k n t).2]) := by
  rcases hs with rfl | rfl
  · exact nopen1 k n [] t
  · exact nopen2 k n [] t
theorem openR_err (k c m z : List (BitVec 8)) (h : (openR k c m z).2 ≠ 0) : (openR k c m z).1 = [] := by
  unfold openR at *
  by_cases h1 : chkE k c m z 2016 = 0
  · rw [if_pos h1] at h ⊢
    by_cases h2 : z.length < 16
    · rw [if_pos h2]
    · rw [if_neg h2] at h ⊢
      by_cases h3 : z.take (z.length - 16) ++ sealT k c m (z.take (z.length - 16)) = z
      · rw [if_pos h3] at h; exact absurd rfl h
      · rw [if_neg h3]
  · rw [if_neg h1]
theorem gOpenR_err (k c m z : List (BitVec 8)) (h : (gOpenR k c m z).2 ≠ 0) : (gOpenR k c m z).1 = [] := by
  unfold gOpenR at *
  by_cases h1 : gchk k c m z 2016 = 0
  · rw [if_pos h1] at h ⊢
    by_cases h2 : z.length < 16
    · rw [if_pos h2]
    · rw [if_neg h2] at h ⊢
      by_cases h3 : gT k c m (z.take (z.length - 16)) = z.drop (z.length - 16)
      · rw [if_pos h3] at h; exact absurd rfl h
      · rw [if_neg h3]
  · rw [if_neg h1]
theorem boxO_err (s : Int) (k : List (BitVec 8)) (n : BitVec 64) (t : List (BitVec 8)) (h : (boxO s k n t).2 ≠ 0) : (boxO s k n t).1 = [] := by
  unfold boxO at *
  by_cases hs : s = 1
  · rw [if_pos hs] at h ⊢; exact openR_err _ _ _ _ h
  · rw [if_neg hs] at h ⊢; exact gOpenR_err _ _ _ _ h
theorem rbox_seal (s : Int) (hs : s = 1 ∨ s = 2) (k : List (BitVec 8)) (n : BitVec 64) (t : List (BitVec 8)) : PureFn Tryz.prog 20 [.i64 s, .str k, .u64 n, .str [], .str t, .bool true] (.tup [.str (boxS s k n t).1, .i64 (boxS s k n t).2]) := by
  rcases hs with rfl | rfl
  · have hn := rnon_spec 1 n
    rw [show boxS 1 k n t = sealR k (nonS 1 n) [] t from rfl]
    generalize nonS 1 n = z at *
    have h := RSeal_spec k z [] t
    generalize sealR k z [] t = g at *
    refine pure_of_vc (by kernel_rfl) (fn := Tryz.f20) (by kernel_rfl) Tryz.func20 rfl (by show 6 ≤ 68; decide) (by simp [lows, V.low]) (by simp [lows, V.low]) (go_start ?_)
    simp only [go_sem, ↓reduceIte, Nat.reduceEqDiff, Nat.reduceLT, Nat.reduceAdd, reduceCtorEq, Tryz.ntmps20]
    refine goCall_pure0 (hn) ?_
    simp only [go_sem, ↓reduceIte, Nat.reduceEqDiff, Nat.reduceLT, reduceCtorEq]
    refine goCall_pure0 (h) ?_
    simp only [go_sem, ↓reduceIte, Nat.reduceEqDiff, Nat.reduceLT]
  · have hn := rnon_spec 2 n
    rw [show boxS 2 k n t = gSealR k (nonS 2 n) [] t from rfl]
    generalize nonS 2 n = z at *
    have h := pure_of_spec0 (by kernel_rfl) (by simp [lows, V.low]) (rgSealR_spec k z [] t)
    generalize gSealR k z [] t = g at *
    refine pure_of_vc (by kernel_rfl) (fn := Tryz.f20) (by kernel_rfl) Tryz.func20 rfl (by show 6 ≤ 68; decide) (by simp [lows, V.low]) (by simp [lows, V.low]) (go_start ?_)
    simp only [go_sem, ↓reduceIte, Nat.reduceEqDiff, Nat.reduceLT, Nat.reduceAdd, Int.reduceEq, reduceCtorEq, Tryz.ntmps20]
    refine goCall_pure0 (hn) ?_
    simp only [go_sem, ↓reduceIte, Nat.reduceEqDiff, Nat.reduceLT, reduceCtorEq]
    refine goCall_pure0 (h) ?_
    simp only [go_sem, ↓reduceIte, Nat.reduceEqDiff, Nat.reduceLT]
theorem rbox_open (s : Int) (hs : s = 1 ∨ s = 2) (k : List (BitVec 8)) (n : BitVec 64) (t : List (BitVec 8)) : PureFn Tryz.prog 20 [.i64 s, .str k, .u64 n, .str [], .str t, .bool false] (.tup [.str (boxO s k n t).1, .i64 (boxO s k n t).2]) := by
  rcases hs with rfl | rfl
  · have hn := rnon_spec 1 n
    rw [show boxO 1 k n t = openR k (nonS 1 n) [] t from rfl]
    generalize nonS 1 n = z at *
    have h := ROpen_spec k z [] t
    generalize openR k z [] t = g at *
    refine pure_of_vc (by kernel_rfl) (fn := Tryz.f20) (by kernel_rfl) Tryz.func20 rfl (by show 6 ≤ 68; decide) (by simp [lows, V.low]) (by simp [lows, V.low]) (go_start ?_)
    simp only [go_sem, ↓reduceIte, Nat.reduceEqDiff, Nat.reduceLT, Nat.reduceAdd, reduceCtorEq, Tryz.ntmps20]
    refine goCall_pure0 (hn) ?_
    simp only [go_sem, ↓reduceIte, Nat.reduceEqDiff, Nat.reduceLT, reduceCtorEq]
    refine goCall_pure0 (h) ?_
    simp only [go_sem, ↓reduceIte, Nat.reduceEqDiff, Nat.reduceLT]
  · have hn := rnon_spec 2 n
    rw [show boxO 2 k n t = gOpenR k (nonS 2 n) [] t from rfl]
    generalize nonS 2 n = z at *
    have h := pure_of_spec0 (by kernel_rfl) (by simp [lows, V.low]) (rgOpenR_spec k z [] t)
    generalize gOpenR k z [] t = g at *
    refine pure_of_vc (by kernel_rfl) (fn := Tryz.f20) (by kernel_rfl) Tryz.func20 rfl (by show 6 ≤ 68; decide) (by simp [lows, V.low]) (by simp [lows, V.low]) (go_start ?_)
    simp only [go_sem, ↓reduceIte, Nat.reduceEqDiff, Nat.reduceLT, Nat.reduceAdd, Int.reduceEq, reduceCtorEq, Tryz.ntmps20]
    refine goCall_pure0 (hn) ?_
    simp only [go_sem, ↓reduceIte, Nat.reduceEqDiff, Nat.reduceLT, reduceCtorEq]
    refine goCall_pure0 (h) ?_
    simp only [go_sem, ↓reduceIte, Nat.reduceEqDiff, Nat.reduceLT]
end Go.Vm
end
section
namespace Go.Vm
open Go.Proofs
set_option maxRecDepth 20000
theorem take_snoc_i {l : List Int} {i : Nat} (h : i < l.length) : l.take (i + 1) = l.take i ++ [l.getD i 0] := by
  rw [List.take_succ_eq_append_getElem h, List.getD_eq_getElem?_getD, List.getElem?_eq_getElem h]; rfl
end Go.Vm
end
section
namespace Go.Vm
open Go.Proofs
set_option maxRecDepth 20000
def wchk (next : Int) (bits : BitVec 64) (n : Int) : Int :=
  if n < 0 ∨ 1099511627776 < n then 1 else if next - 1 - n < 0 then 0 else if 64 ≤ next - 1 - n ∨ bits >>> (next - 1 - n).toNat &&& 1#64 = 1#64 then 11 else 0
def wnext (next n : Int) : Int := if next ≤ n then n + 1 else next
def wbits (next : Int) (bits : BitVec 64) (n : Int) : BitVec 64 :=
  if next ≤ n then bits <<< (if 64 < n + 1 - next then 64 else n + 1 - next).toNat ||| 1#64 <<< 0 else bits ||| 1#64 <<< (next - 1 - n).toNat
theorem wNew_spec : Spec0 Tryz.prog 15 [] [] (.ptr 0 0) [some ⟨false, [.i64 0, .u64 0#64]⟩] := by
  refine spec0_of_vc (by kernel_rfl) (fn := Tryz.f15) Tryz.func15 rfl (by show 0 ≤ 3; decide) (go_start ?_)
  simp only [go_sem, ↓reduceIte, Nat.reduceLT, Tryz.ntmps15, Tryz.results15]
  exact Fin.ren [0] (by simp) (by simp) (by rfl) (by decide) (by simp [-List.map_map, -List.map_set]) (by simp [-List.map_map, -List.map_set])
theorem wCheck_spec (next : Int) (bits : BitVec 64) (n : Int) (h0 : 0 ≤ next) (h1 : next ≤ 1099511627777) : Spec0 Tryz.prog 22 [.ptr 0 0, .i64 n] [some ⟨false, [.i64 next, .u64 bits]⟩] (.i64 (wchk next bits n)) [some ⟨false, [.i64 next, .u64 bits]⟩] := by
  unfold wchk
  by_cases h2 : n < 0
  · refine spec0_of_vc (by kernel_rfl) (fn := Tryz.f22) Tryz.func22 rfl (by show 2 ≤ 36; decide) (go_start ?_)
    simp only [go_sem, ↓reduceIte, Nat.reduceEqDiff, Nat.reduceLT, Nat.reduceAdd, reduceCtorEq, Tryz.ntmps22, Tryz.results22, h2, true_or]
    exact Fin.ren [0] (by simp) (by simp) (by rfl) (by decide) (by simp [-List.map_map, -List.map_set]) (by simp [-List.map_map, -List.map_set])
  · by_cases h3 : 1099511627776 < n
    · refine spec0_of_vc (by kernel_rfl) (fn := Tryz.f22) Tryz.func22 rfl (by show 2 ≤ 36; decide) (go_start ?_)
      simp only [go_sem, ↓reduceIte, Nat.reduceEqDiff, Nat.reduceLT, Nat.reduceAdd, reduceCtorEq, Tryz.ntmps22, Tryz.results22, h2, h3, false_or]
      exact Fin.ren [0] (by simp) (by simp) (by rfl) (by decide) (by simp [-List.map_map, -List.map_set]) (by simp [-List.map_map, -List.map_set])
    · have e1 : w64 (next - 1) = next - 1 := w64_of (by omega) (by omega)
      have e2 : w64 (next - 1 - n) = next - 1 - n := w64_of (by omega) (by omega)
      by_cases h4 : next - 1 - n < 0
      · refine spec0_of_vc (by kernel_rfl) (fn := Tryz.f22) Tryz.func22 rfl (by show 2 ≤ 36; decide) (go_start ?_)
        simp only [go_sem, ↓reduceIte, Nat.reduceEqDiff, Nat.reduceLT, Nat.reduceAdd, reduceCtorEq, Tryz.ntmps22, Tryz.results22, h2, h3, false_or, e1, e2, h4]
        exact Fin.ren [0] (by simp) (by simp) (by rfl) (by decide) (by simp [-List.map_map, -List.map_set]) (by simp [-List.map_map, -List.map_set])
      · by_cases h5 : 64 ≤ next - 1 - n
        · refine spec0_of_vc (by kernel_rfl) (fn := Tryz.f22) Tryz.func22 rfl (by show 2 ≤ 36; decide) (go_start ?_)
          simp only [go_sem, ↓reduceIte, Nat.reduceEqDiff, Nat.reduceLT, Nat.reduceAdd, reduceCtorEq, Tryz.ntmps22, Tryz.results22, h2, h3, false_or, e1, e2, h4, h5, true_or]
          exact Fin.ren [0] (by simp) (by simp) (by rfl) (by decide) (by simp [-List.map_map, -List.map_set]) (by simp [-List.map_map, -List.map_set])
        · refine spec0_of_vc (by kernel_rfl) (fn := Tryz.f22) Tryz.func22 rfl (by show 2 ≤ 36; decide) (go_start ?_)
          simp only [go_sem, ↓reduceIte, Nat.reduceEqDiff, Nat.reduceLT, Nat.reduceAdd, Int.reduceLE, Int.reduceLT, BitVec.reduceOfInt, reduceCtorEq, Tryz.ntmps22, Tryz.results22, h2, h3, false_or, e1, e2, h4, h5]
          refine ⟨by omega, ?_⟩
          split
          · exact Fin.ren [0] (by simp) (by simp) (by rfl) (by decide) (by simp [-List.map_map, -List.map_set]) (by simp [-List.map_map, -List.map_set])
          · exact Fin.ren [0] (by simp) (by simp) (by rfl) (by decide) (by simp [-List.map_map, -List.map_set]) (by simp [-List.map_map, -List.map_set])
theorem wTake_yes (next : Int) (bits : BitVec 64) (n : Int) (h0 : 0 ≤ next) (h1 : next ≤ 1099511627777) (h : wchk next bits n = 0) : Spec0 Tryz.prog 24 [.ptr 0 0, .i64 n] [some ⟨false, [.i64 next, .u64 bits]⟩] (.i64 0) [some ⟨false, [.i64 (wnext next n), .u64 (wbits next bits n)]⟩] := by
  have hn : 0 ≤ n ∧ n ≤ 1099511627776 := by
    unfold wchk at h
    by_cases h2 : n < 0 ∨ 1099511627776 < n
    · rw [if_pos h2] at h; omega
    · omega
  have e1 : w64 (next - 1) = next - 1 := w64_of (by omega) (by omega)
  have e2 : w64 (next - 1 - n) = next - 1 - n := w64_of (by omega) (by omega)
  have e3 : w64 (n + 1) = n + 1 := w64_of (by omega) (by omega)
  have e4 : w64 (n + 1 - next) = n + 1 - next := w64_of (by omega) (by omega)
  have e5 : w64 (n + 1 - 1) = n := by rw [w64_of (by omega) (by omega)]; omega
  have e6 : w64 (n - n) = 0 := by rw [w64_of (by omega) (by omega)]; omega
  unfold wnext wbits
  refine spec0_of_vc (by kernel_rfl) (fn := Tryz.f24) Tryz.func24 rfl (by show 2 ≤ 53; decide) (go_start ?_)
  simp only [go_sem, ↓reduceIte, Nat.reduceEqDiff, Nat.reduceLT, reduceCtorEq, Tryz.ntmps24]
  refine goCall_mem [0] (wCheck_spec next bits n h0 h1) (by kernel_rfl) (by simp [-List.map_map, -List.map_set]) rfl (by simp [-List.map_map, -List.map_set]) (by decide) (by simp [-List.map_map, -List.map_set]) (by simp [-List.map_map, -List.map_set]) (by simp [-List.map_map, -List.map_set]) (by simp [-List.map_map, -List.map_set]) (by simp) ?_
  simp only [go_sem, ↓reduceIte, Nat.reduceEqDiff, Nat.reduceLT, Nat.reduceLeDiff, Nat.reduceAdd, Nat.reduceSub, Int.reduceLE, Int.reduceLT, BitVec.reduceOfInt, reduceCtorEq, h]
  by_cases h2 : next ≤ n
  · have h3 : 0 ≤ (if 64 < n + 1 - next then 64 else n + 1 - next) := by split <;> omega
    simp only [go_sem, ↓reduceIte, Int.reduceToNat, h2, e3, e4, h3, e5, e6]
    refine ⟨by kernel_rfl, by kernel_rfl, ?_⟩
    exact Fin.ren [0] (by simp) (by simp) (by rfl) (by decide) (by simp [-List.map_map, -List.map_set]) (by simp [-List.map_map, -List.map_set])
  · have h3 : 0 ≤ next - 1 - n := by omega
    simp only [go_sem, ↓reduceIte, h2, e1, e2, h3]
    refine ⟨by kernel_rfl, ?_⟩
    exact Fin.ren [0] (by simp) (by simp) (by rfl) (by decide) (by simp [-List.map_map, -List.map_set]) (by simp [-List.map_map, -List.map_set])
end Go.Vm
end
section
namespace Go.Vm
open Go.Proofs
set_option maxRecDepth 20000
def mx (a b : Int) : Int := if a < b then b else a
def maxL (l : List Int) : Int := l.foldl mx (-1)
theorem maxL_snoc (l : List Int) (n : Int) : maxL (l ++ [n]) = mx (maxL l) n := by unfold maxL; rw [List.foldl_append]; rfl
theorem le_mx (a b : Int) : a ≤ mx a b ∧ b ≤ mx a b := by unfold mx; split <;> omega
theorem maxL_ge (l : List Int) : -1 ≤ maxL l ∧ ∀ x ∈ l, x ≤ maxL l := by
  induction l using snoc_ind with
  | h0 => exact ⟨by decide, fun x h => by cases h⟩
  | h1 l a ih =>
    rw [maxL_snoc]
    have := le_mx (maxL l) a
    refine ⟨by omega, fun x hx => ?_⟩
    rcases List.mem_append.1 hx with hx | hx
    · have := ih.2 x hx; omega
    · simp at hx; omega
theorem maxL_le (l : List Int) (b : Int) (hb : -1 ≤ b) (h : ∀ x ∈ l, x ≤ b) : maxL l ≤ b := by
  induction l using snoc_ind with
  | h0 => exact hb
  | h1 l a ih =>
    rw [maxL_snoc]
    have h1 := ih fun x hx => h x (by simp [hx])
    have h2 := h a (by simp)
    unfold mx; split <;> omega
theorem has_nil (n : Int) : PureFn Tryz.prog 33 [.nilSlice, .i64 n] (.bool false) := by
  refine pure_of_vc (by kernel_rfl) (fn := Tryz.f33) (by kernel_rfl) Tryz.func33 rfl (by show 2 ≤ 17; decide) (by simp [lows, V.low]) (by simp [V.low]) (go_start ?_)
  simp only [go_sem, ↓reduceIte, Nat.reduceLT, reduceCtorEq, Tryz.ntmps33]
  refine go_unroll 1 ?_
  simp only [go_sem, ↓reduceIte, Nat.reduceLT, Nat.reduceSub, Int.reduceLT]
theorem has_some (l : List Int) (n : Int) (hl : l.length ≤ 140737488351232) : Spec0 Tryz.prog 33 [.slice 0 0 l.length 1, .i64 n] [some ⟨false, l.map .i64⟩] (.bool (decide (n ∈ l))) [some ⟨false, l.map .i64⟩] := by
  refine spec0_of_vc (by kernel_rfl) (fn := Tryz.f33) Tryz.func33 rfl (by show 2 ≤ 17; decide) (go_start ?_)
  simp only [go_sem, ↓reduceIte, Nat.reduceLT, reduceCtorEq, Tryz.ntmps33]
  refine go_loop (fun j st => ∃ i : Nat, i + j = l.length ∧ st = ⟨[(1, .i64 n), (7, .slice 0 0 l.length 1), (8, .i64 l.length), (9, .i64 i)], [some ⟨false, l.map .i64⟩]⟩ ∧ n ∉ l.take i) ?_ ?_
  · exact start_mk l.length ⟨[(1, .i64 n), (7, .slice 0 0 l.length 1), (8, .i64 l.length), (9, .i64 (0 : Nat))], [some ⟨false, l.map .i64⟩]⟩ (by simp [St.get, lookS]) rfl (fun _ _ h => h) ⟨0, by omega, rfl, by simp⟩
  rintro j st ⟨i, hi, rfl, he⟩ _
  by_cases h0 : i < l.length
  · have h0' : (i : Int) < (l.length : Int) := by omega
    simp only [go_sem, ↓reduceIte, Nat.reduceEqDiff, Nat.reduceLT, h0', h0, getD_i64 h0]
    refine ⟨by omega, ?_⟩
    by_cases h2 : n = l.getD i 0
    · have hm : (n ∈ l) = True := eq_true (by rw [h2, List.getD_eq_getElem?_getD, List.getElem?_eq_getElem h0]; exact List.getElem_mem h0)
      simp only [go_sem, ↓reduceIte, ← h2, hm]
      exact Fin.ren [0] (by simp) (by simp) (by rfl) (by decide) (by simp [-List.map_map, -List.map_set]) (by simp [-List.map_map, -List.map_set])
    · simp only [go_sem, ↓reduceIte, h2]
      refine again_mk (j - 1) ⟨[(1, .i64 n), (7, .slice 0 0 l.length 1), (8, .i64 l.length), (9, .i64 (i + 1 : Nat))], [some ⟨false, l.map .i64⟩]⟩ (by omega) ?_ rfl (fun _ _ h => h) ⟨i + 1, by omega, rfl, by rw [take_snoc_i h0]; simp only [List.mem_append, List.mem_singleton, not_or]; exact ⟨he, h2⟩⟩
      have hw1 : w64 ((i : Int) + 1) = ((i + 1 : Nat) : Int) := by rw [w64_of (by omega) (by omega)]; omega
      simp [St.get, lookS, hw1]
  · have h0' : ¬ (i : Int) < (l.length : Int) := by omega
    have hm : (n ∈ l) = False := eq_false (by rw [List.take_of_length_le (by omega)] at he; exact he)
    simp only [go_sem, ↓reduceIte, Nat.reduceEqDiff, Nat.reduceLT, h0', hm]
    exact Fin.ren [0] (by simp) (by simp) (by rfl) (by decide) (by simp [-List.map_map, -List.map_set]) (by simp [-List.map_map, -List.map_set])
def rchk (l : List Int) (n : Int) : Int := if n < 0 ∨ 1099511627776 < n then 1 else if n ∈ l ∨ n + 64 < maxL l + 1 then 11 else 0
end Go.Vm
end
section
namespace Go.Vm
open Go.Proofs
set_option maxRecDepth 20000
theorem bit_one (x : BitVec 64) (k : Nat) : (x >>> k &&& 1#64 = 1#64) ↔ x.getLsbD k = true := by
  have h : (x >>> k &&& 1#64).toNat = if x.getLsbD k then 1 else 0 := by
    rw [BitVec.toNat_and, BitVec.toNat_ushiftRight]
    show (x.toNat >>> k) &&& 1 = _
    rw [Nat.and_one_is_mod, ← BitVec.testBit_toNat]
    have : (x.toNat >>> k) % 2 = if x.toNat.testBit k then 1 else 0 := by
      rw [Nat.testBit_eq_decide_div_mod_eq, Nat.shiftRight_eq_div_pow]
      by_cases h : x.toNat / 2 ^ k % 2 = 1 <;> simp [h]
      omega
    exact this
  constructor
  · intro e
    rw [e] at h
    by_cases hb : x.getLsbD k = true
    · exact hb
    · rw [if_neg hb] at h; simp at h
  · intro hb
    apply BitVec.eq_of_toNat_eq
    rw [h, if_pos hb]; rfl
structure WInv (next : Int) (bits : BitVec 64) (l : List Int) : Prop where
  next_eq : next = maxL l + 1
  all : ∀ x ∈ l, 0 ≤ x ∧ x ≤ 1099511627776
  bit : ∀ k : Nat, k < 64 → (bits.getLsbD k = true ↔ next - 1 - (k : Int) ∈ l)
theorem WInv.bounds {next : Int} {bits : BitVec 64} {l : List Int} (h : WInv next bits l) : 0 ≤ next ∧ next ≤ 1099511627777 := by
  have h1 := maxL_ge l
  have h2 := maxL_le l 1099511627776 (by decide) fun x hx => (h.all x hx).2
  have h3 := h.next_eq
  omega
theorem WInv.nil : WInv 0 0#64 [] := ⟨by decide, fun x h => (by cases h), fun k hk => (by simp)⟩
theorem WInv.chk {next : Int} {bits : BitVec 64} {l : List Int} (h : WInv next bits l) (n : Int) : wchk next bits n = rchk l n := by
  unfold wchk rchk
  by_cases h1 : n < 0 ∨ 1099511627776 < n
  · rw [if_pos h1, if_pos h1]
  · rw [if_neg h1, if_neg h1]
    have hm := maxL_ge l
    have hn := h.next_eq
    by_cases h2 : next - 1 - n < 0
    · have h3 : ¬ (n ∈ l ∨ n + 64 < maxL l + 1) := by
        rintro (h3 | h3)
        · have := hm.2 n h3; omega
        · omega
      rw [if_pos h2, if_neg h3]
    · rw [if_neg h2]
      by_cases h4 : 64 ≤ next - 1 - n
      · rw [if_pos (.inl h4), if_pos (.inr (by omega))]
      · have e : ((next - 1 - n).toNat : Int) = next - 1 - n := by omega
        have h5 := h.bit (next - 1 - n).toNat (by omega)
        rw [e, show next - 1 - (next - 1 - n) = n by omega, ← bit_one] at h5
        by_cases h6 : n ∈ l
        · rw [if_pos (.inr (h5.2 h6)), if_pos (.inl h6)]
        · rw [if_neg (fun x => x.elim h4 fun x => h6 (h5.1 x)), if_neg (fun x => x.elim h6 fun x => by omega)]
theorem WInv.take {next : Int} {bits : BitVec 64} {l : List Int} (h : WInv next bits l) (n : Int) (hc : rchk l n = 0) : WInv (wnext next n) (wbits next bits n) (l ++ [n]) := by
  have hm := maxL_ge l
  have hn := h.next_eq
  have hb := h.bounds
  have h0 : 0 ≤ n ∧ n ≤ 1099511627776 := by
    unfold rchk at hc
    by_cases h1 : n < 0 ∨ 1099511627776 < n
    · rw [if_pos h1] at hc; omega
    · omega
  have h1 : n ∉ l ∧ ¬ n + 64 < maxL l + 1 := by
    unfold rchk at hc
    rw [if_neg (by omega)] at hc
    constructor
    · intro h2; rw [if_pos (.inl h2)] at hc; omega
    · intro h2; rw [if_pos (.inr h2)] at hc; omega
  refine ⟨?_, fun x hx => ?_, fun k hk => ?_⟩
  · rw [maxL_snoc]; unfold wnext mx; split <;> split <;> omega
  · rcases List.mem_append.1 hx with hx | hx
    · exact h.all x hx
    · simp at hx; subst hx; exact h0
  · unfold wbits wnext
    by_cases h2 : next ≤ n
    · rw [if_pos h2, if_pos h2]
      have hone : (1#64 <<< 0).getLsbD k = decide (k = 0) := by
        rw [BitVec.shiftLeft_zero, BitVec.getLsbD_one]; simp
      rw [BitVec.getLsbD_or, hone, Bool.or_eq_true, decide_eq_true_eq, List.mem_append, List.mem_singleton]
      rw [BitVec.getLsbD_shiftLeft]
      simp only [Bool.and_eq_true, decide_eq_true_eq, Bool.not_eq_true', decide_eq_false_iff_not]
      constructor
      · rintro (⟨⟨_, h3⟩, h4⟩ | h3)
        · left
          by_cases h5 : 64 < n + 1 - next
          · rw [if_pos h5] at h3; exact absurd hk h3
          · rw [if_neg h5] at h3 h4
            have h6 := (h.bit _ (by omega)).1 h4
            have e : next - 1 - ((k - (n + 1 - next).toNat : Nat) : Int) = n + 1 - 1 - (k : Int) := by omega
            rw [e] at h6; exact h6
        · right; subst h3; omega
      · rintro (h3 | h3)
        · left
          have h4 := hm.2 _ h3
          have h5 : ¬ 64 < n + 1 - next := by omega
          rw [if_neg h5]
          refine ⟨⟨hk, by omega⟩, (h.bit _ (by omega)).2 ?_⟩
          have e : next - 1 - ((k - (n + 1 - next).toNat : Nat) : Int) = n + 1 - 1 - (k : Int) := by omega
          rw [e]; exact h3
        · right; omega
    · rw [if_neg h2, if_neg h2]
      have hone : (1#64 <<< (next - 1 - n).toNat).getLsbD k = decide (k = (next - 1 - n).toNat) := by
        rw [BitVec.getLsbD_shiftLeft, BitVec.getLsbD_one]
        by_cases e : k = (next - 1 - n).toNat
        · subst e; simp [hk]
        · simp only [e, decide_false, Bool.and_eq_false_imp, Bool.and_eq_true, decide_eq_true_eq, Bool.not_eq_true', decide_eq_false_iff_not]
          intro _
          omega
      rw [BitVec.getLsbD_or, hone, Bool.or_eq_true, decide_eq_true_eq, List.mem_append, List.mem_singleton]
      constructor
      · rintro (h3 | h3)
        · exact .inl ((h.bit k hk).1 h3)
        · right; omega
      · rintro (h3 | h3)
        · exact .inl ((h.bit k hk).2 h3)
        · right; omega
end Go.Vm
end
section
namespace Go.Vm
open Go.Proofs
set_option maxRecDepth 20000
/-- Over and stale. -/
def overB (bo se now : Int) : Bool := if bo + 180 ≤ now then true else decide (1000 ≤ se)
def staleB (bo se : Int) (fs : Bool) (now : Int) : Bool := if overB bo se now = true then true else if fs = true then decide (bo + 120 ≤ now) else false
theorem pold_spec (sd rc : List (BitVec 8)) (s bo se : Int) (fs : Bool) (next : Int) (bits : BitVec 64) (now m : Int) (hb : 0 ≤ bo) (hb2 : bo ≤ 1099511627776) (hm : 0 ≤ m) (hm2 : m ≤ 1000) :
    Spec0 Tryz.prog 21 [.ptr 0 0, .i64 now, .i64 m] [some ⟨false, [.ptr 1 0, .str sd, .str rc, .i64 s, .i64 bo, .i64 se, .bool fs]⟩, some ⟨false, [.i64 next, .u64 bits]⟩] (.bool (decide (bo + m ≤ now))) [some ⟨false, [.ptr 1 0, .str sd, .str rc, .i64 s, .i64 bo, .i64 se, .bool fs]⟩, some ⟨false, [.i64 next, .u64 bits]⟩] := by
  have e : w64 (bo + m) = bo + m := w64_of (by omega) (by omega)
  refine spec0_of_vc (by kernel_rfl) (fn := Tryz.f21) Tryz.func21 rfl (by show 3 ≤ 15; decide) (go_start ?_)
  simp only [go_sem, ↓reduceIte, Nat.reduceEqDiff, Nat.reduceLT, Nat.reduceAdd, reduceCtorEq, Tryz.ntmps21, Tryz.results21, e]
  exact Fin.ren [0, 1] (by simp) (by simp) (by rfl) (by decide) (by simp [-List.map_map, -List.map_set]) (by simp [-List.map_map, -List.map_set])
theorem pover_spec (sd rc : List (BitVec 8)) (s bo se : Int) (fs : Bool) (next : Int) (bits : BitVec 64) (now : Int) (hb : 0 ≤ bo) (hb2 : bo ≤ 1099511627776) :
    Spec0 Tryz.prog 13 [.ptr 0 0, .i64 now] [some ⟨false, [.ptr 1 0, .str sd, .str rc, .i64 s, .i64 bo, .i64 se, .bool fs]⟩, some ⟨false, [.i64 next, .u64 bits]⟩] (.bool (overB bo se now)) [some ⟨false, [.ptr 1 0, .str sd, .str rc, .i64 s, .i64 bo, .i64 se, .bool fs]⟩, some ⟨false, [.i64 next, .u64 bits]⟩] := by
  have ho := pold_spec sd rc s bo se fs next bits now 180 hb hb2 (by decide) (by decide)
  unfold overB
  by_cases h : bo + 180 ≤ now
  · have h' := eq_true h
    rw [decide_eq_true h] at ho
    refine spec0_of_vc (by kernel_rfl) (fn := Tryz.f13) Tryz.func13 rfl (by show 2 ≤ 15; decide) (go_start ?_)
    simp only [go_sem, ↓reduceIte, Nat.reduceEqDiff, Nat.reduceLT, Nat.reduceAdd, reduceCtorEq, Tryz.ntmps13]
    refine goCall_mem [0, 1] (ho) (by kernel_rfl) (by simp [-List.map_map, -List.map_set]) rfl (by simp [-List.map_map, -List.map_set]) (by decide) (by simp [-List.map_map, -List.map_set]) (by simp [-List.map_map, -List.map_set]) (by simp [-List.map_map, -List.map_set]) (by simp [-List.map_map, -List.map_set]) (by simp) ?_
    simp only [go_sem, ↓reduceIte, Nat.reduceEqDiff, Nat.reduceLT, Nat.reduceAdd, Nat.reduceSub, reduceCtorEq, h']
    exact Fin.ren [0, 1] (by simp) (by simp) (by rfl) (by decide) (by simp [-List.map_map, -List.map_set]) (by simp [-List.map_map, -List.map_set])
  · have h' := eq_false h
    rw [decide_eq_false h] at ho
    refine spec0_of_vc (by kernel_rfl) (fn := Tryz.f13) Tryz.func13 rfl (by show 2 ≤ 15; decide) (go_start ?_)
    simp only [go_sem, ↓reduceIte, Nat.reduceEqDiff, Nat.reduceLT, Nat.reduceAdd, reduceCtorEq, Tryz.ntmps13]
    refine goCall_mem [0, 1] (ho) (by kernel_rfl) (by simp [-List.map_map, -List.map_set]) rfl (by simp [-List.map_map, -List.map_set]) (by decide) (by simp [-List.map_map, -List.map_set]) (by simp [-List.map_map, -List.map_set]) (by simp [-List.map_map, -List.map_set]) (by simp [-List.map_map, -List.map_set]) (by simp) ?_
    simp only [go_sem, ↓reduceIte, Nat.reduceEqDiff, Nat.reduceLT, Nat.reduceAdd, Nat.reduceSub, reduceCtorEq, h']
    exact Fin.ren [0, 1] (by simp) (by simp) (by rfl) (by decide) (by simp [-List.map_map, -List.map_set]) (by simp [-List.map_map, -List.map_set])
theorem pstale_spec (sd rc : List (BitVec 8)) (s bo se : Int) (fs : Bool) (next : Int) (bits : BitVec 64) (now : Int) (hb : 0 ≤ bo) (hb2 : bo ≤ 1099511627776) :
    Spec0 Tryz.prog 11 [.ptr 0 0, .i64 now] [some ⟨false, [.ptr 1 0, .str sd, .str rc, .i64 s, .i64 bo, .i64 se, .bool fs]⟩, some ⟨false, [.i64 next, .u64 bits]⟩] (.bool (staleB bo se fs now)) [some ⟨false, [.ptr 1 0, .str sd, .str rc, .i64 s, .i64 bo, .i64 se, .bool fs]⟩, some ⟨false, [.i64 next, .u64 bits]⟩] := by
  have ho := pover_spec sd rc s bo se fs next bits now hb hb2
  have hd := pold_spec sd rc s bo se fs next bits now 120 hb hb2 (by decide) (by decide)
  unfold staleB
  generalize overB bo se now = o at *
  cases o
  · cases fs
    · refine spec0_of_vc (by kernel_rfl) (fn := Tryz.f11) Tryz.func11 rfl (by show 2 ≤ 19; decide) (go_start ?_)
      simp only [go_sem, ↓reduceIte, Nat.reduceEqDiff, Nat.reduceLT, Nat.reduceAdd, reduceCtorEq, Tryz.ntmps11]
      refine goCall_mem [0, 1] (ho) (by kernel_rfl) (by simp [-List.map_map, -List.map_set]) rfl (by simp [-List.map_map, -List.map_set]) (by decide) (by simp [-List.map_map, -List.map_set]) (by simp [-List.map_map, -List.map_set]) (by simp [-List.map_map, -List.map_set]) (by simp [-List.map_map, -List.map_set]) (by simp) ?_
      simp only [go_sem, ↓reduceIte, Nat.reduceEqDiff, Nat.reduceLT, Nat.reduceAdd, Nat.reduceSub, reduceCtorEq]
      exact Fin.ren [0, 1] (by simp) (by simp) (by rfl) (by decide) (by simp [-List.map_map, -List.map_set]) (by simp [-List.map_map, -List.map_set])
    · refine spec0_of_vc (by kernel_rfl) (fn := Tryz.f11) Tryz.func11 rfl (by show 2 ≤ 19; decide) (go_start ?_)
      simp only [go_sem, ↓reduceIte, Nat.reduceEqDiff, Nat.reduceLT, Nat.reduceAdd, reduceCtorEq, Tryz.ntmps11]
      refine goCall_mem [0, 1] (ho) (by kernel_rfl) (by simp [-List.map_map, -List.map_set]) rfl (by simp [-List.map_map, -List.map_set]) (by decide) (by simp [-List.map_map, -List.map_set]) (by simp [-List.map_map, -List.map_set]) (by simp [-List.map_map, -List.map_set]) (by simp [-List.map_map, -List.map_set]) (by simp) ?_
      simp only [go_sem, ↓reduceIte, Nat.reduceEqDiff, Nat.reduceLT, Nat.reduceAdd, Nat.reduceSub, reduceCtorEq]
      refine goCall_mem [0, 1] (hd) (by kernel_rfl) (by simp [-List.map_map, -List.map_set]) rfl (by simp [-List.map_map, -List.map_set]) (by decide) (by simp [-List.map_map, -List.map_set]) (by simp [-List.map_map, -List.map_set]) (by simp [-List.map_map, -List.map_set]) (by simp [-List.map_map, -List.map_set]) (by simp) ?_
      simp only [go_sem, ↓reduceIte, Nat.reduceEqDiff, Nat.reduceLT, Nat.reduceAdd, Nat.reduceSub]
      exact Fin.ren [0, 1] (by simp) (by simp) (by rfl) (by decide) (by simp [-List.map_map, -List.map_set]) (by simp [-List.map_map, -List.map_set])
  · refine spec0_of_vc (by kernel_rfl) (fn := Tryz.f11) Tryz.func11 rfl (by show 2 ≤ 19; decide) (go_start ?_)
    simp only [go_sem, ↓reduceIte, Nat.reduceEqDiff, Nat.reduceLT, Nat.reduceAdd, reduceCtorEq, Tryz.ntmps11]
    refine goCall_mem [0, 1] (ho) (by kernel_rfl) (by simp [-List.map_map, -List.map_set]) rfl (by simp [-List.map_map, -List.map_set]) (by decide) (by simp [-List.map_map, -List.map_set]) (by simp [-List.map_map, -List.map_set]) (by simp [-List.map_map, -List.map_set]) (by simp [-List.map_map, -List.map_set]) (by simp) ?_
    simp only [go_sem, ↓reduceIte, Nat.reduceEqDiff, Nat.reduceLT, Nat.reduceAdd, Nat.reduceSub, reduceCtorEq]
    exact Fin.ren [0, 1] (by simp) (by simp) (by rfl) (by decide) (by simp [-List.map_map, -List.map_set]) (by simp [-List.map_map, -List.map_set])
theorem pnew_spec (s : Int) (hs : s = 1 ∨ s = 2) (sd rc : List (BitVec 8)) (hsd : sd.length = 32) (hrc : rc.length = 32) (bo : Int) (hb : 0 ≤ bo) (hb2 : bo ≤ 1099511627776) (fs : Bool) :
    Spec0 Tryz.prog 4 [.i64 s, .agg [.str sd, .str rc], .i64 bo, .bool fs] [] (.tup [.ptr 0 0, .i64 0]) [some ⟨false, [.ptr 1 0, .str sd, .str rc, .i64 s, .i64 bo, .i64 0, .bool fs]⟩, some ⟨false, [.i64 0, .u64 0#64]⟩] := by
  have h1 : ¬ bo < 0 := by omega
  have h2 : ¬ (1099511627776 : Int) < bo := by omega
  have h3 : (sd.length : Int) = 32 := by omega
  have h4 : (rc.length : Int) = 32 := by omega
  rcases hs with rfl | rfl
  · refine spec0_of_vc (by kernel_rfl) (fn := Tryz.f4) Tryz.func4 rfl (by show 4 ≤ 46; decide) (go_start ?_)
    simp only [go_sem, ↓reduceIte, Nat.reduceEqDiff, Nat.reduceLT, Nat.reduceAdd, reduceCtorEq, Tryz.ntmps4, h1, h2, h3, h4]
    refine goCallD_mem [] (wNew_spec) (by kernel_rfl) (by simp [-List.map_map, -List.map_set]) rfl (by simp [-List.map_map, -List.map_set]) (by decide) (by simp [-List.map_map, -List.map_set]) (by simp [-List.map_map, -List.map_set]) (by simp [-List.map_map, -List.map_set]) (by simp [-List.map_map, -List.map_set]) (by simp) ?_
    simp only [go_sem, ↓reduceIte, Nat.reduceEqDiff, Nat.reduceLT, Nat.reduceLeDiff, Nat.reduceAdd, Nat.reduceSub, reduceCtorEq]
    refine ⟨by kernel_rfl, ?_⟩
    exact Fin.ren [2, 1] (by simp) (by simp) (by rfl) (by decide) (by simp [-List.map_map, -List.map_set]) (by simp [-List.map_map, -List.map_set])
  · refine spec0_of_vc (by kernel_rfl) (fn := Tryz.f4) Tryz.func4 rfl (by show 4 ≤ 46; decide) (go_start ?_)
    simp only [go_sem, ↓reduceIte, Nat.reduceEqDiff, Nat.reduceLT, Nat.reduceAdd, Int.reduceEq, reduceCtorEq, Tryz.ntmps4, h1, h2, h3, h4]
    refine goCallD_mem [] (wNew_spec) (by kernel_rfl) (by simp [-List.map_map, -List.map_set]) rfl (by simp [-List.map_map, -List.map_set]) (by decide) (by simp [-List.map_map, -List.map_set]) (by simp [-List.map_map, -List.map_set]) (by simp [-List.map_map, -List.map_set]) (by simp [-List.map_map, -List.map_set]) (by simp) ?_
    simp only [go_sem, ↓reduceIte, Nat.reduceEqDiff, Nat.reduceLT, Nat.reduceLeDiff, Nat.reduceAdd, Nat.reduceSub, reduceCtorEq]
    refine ⟨by kernel_rfl, ?_⟩
    exact Fin.ren [2, 1] (by simp) (by simp) (by rfl) (by decide) (by simp [-List.map_map, -List.map_set]) (by simp [-List.map_map, -List.map_set])
theorem pnew_bad (s : Int) (sd rc : List (BitVec 8)) (bo : Int) (fs : Bool) (h : ¬ ((s = 1 ∨ s = 2) ∧ sd.length = 32 ∧ rc.length = 32 ∧ 0 ≤ bo ∧ bo ≤ 1099511627776)) :
    Spec0 Tryz.prog 4 [.i64 s, .agg [.str sd, .str rc], .i64 bo, .bool fs] [] (.tup [.nilPtr, .i64 1]) [] := by
  by_cases h0 : s = 1 ∨ s = 2
  · have key : ∀ s : Int, s = 1 ∨ s = 2 → Spec0 Tryz.prog 4 [.i64 s, .agg [.str sd, .str rc], .i64 bo, .bool fs] [] (.tup [.nilPtr, .i64 1]) [] := by
      intro s hs
      by_cases h3 : sd.length = 32
      · have h3' : (sd.length : Int) = 32 := by omega
        by_cases h4 : rc.length = 32
        · have h4' : (rc.length : Int) = 32 := by omega
          by_cases h1 : bo < 0
          · rcases hs with rfl | rfl
            · refine spec0_of_vc (by kernel_rfl) (fn := Tryz.f4) Tryz.func4 rfl (by show 4 ≤ 46; decide) (go_start ?_)
              simp only [go_sem, ↓reduceIte, Nat.reduceEqDiff, Nat.reduceLT, Nat.reduceAdd, reduceCtorEq, Tryz.ntmps4, Tryz.results4, h1, h3', h4']
              exact Fin.ren [] (by simp) (by simp) (by rfl) (by decide) (by simp [-List.map_map, -List.map_set]) (by simp [-List.map_map, -List.map_set])
            · refine spec0_of_vc (by kernel_rfl) (fn := Tryz.f4) Tryz.func4 rfl (by show 4 ≤ 46; decide) (go_start ?_)
              simp only [go_sem, ↓reduceIte, Nat.reduceEqDiff, Nat.reduceLT, Nat.reduceAdd, Int.reduceEq, reduceCtorEq, Tryz.ntmps4, Tryz.results4, h1, h3', h4']
              exact Fin.ren [] (by simp) (by simp) (by rfl) (by decide) (by simp [-List.map_map, -List.map_set]) (by simp [-List.map_map, -List.map_set])
          · have h2 : (1099511627776 : Int) < bo := by omega
            rcases hs with rfl | rfl
            · refine spec0_of_vc (by kernel_rfl) (fn := Tryz.f4) Tryz.func4 rfl (by show 4 ≤ 46; decide) (go_start ?_)
              simp only [go_sem, ↓reduceIte, Nat.reduceEqDiff, Nat.reduceLT, Nat.reduceAdd, reduceCtorEq, Tryz.ntmps4, Tryz.results4, h1, h2, h3', h4']
              exact Fin.ren [] (by simp) (by simp) (by rfl) (by decide) (by simp [-List.map_map, -List.map_set]) (by simp [-List.map_map, -List.map_set])
            · refine spec0_of_vc (by kernel_rfl) (fn := Tryz.f4) Tryz.func4 rfl (by show 4 ≤ 46; decide) (go_start ?_)
              simp only [go_sem, ↓reduceIte, Nat.reduceEqDiff, Nat.reduceLT, Nat.reduceAdd, Int.reduceEq, reduceCtorEq, Tryz.ntmps4, Tryz.results4, h1, h2, h3', h4']
              exact Fin.ren [] (by simp) (by simp) (by rfl) (by decide) (by simp [-List.map_map, -List.map_set]) (by simp [-List.map_map, -List.map_set])
        · have h4' : ¬ (rc.length : Int) = 32 := by omega
          rcases hs with rfl | rfl
          · refine spec0_of_vc (by kernel_rfl) (fn := Tryz.f4) Tryz.func4 rfl (by show 4 ≤ 46; decide) (go_start ?_)
            simp only [go_sem, ↓reduceIte, Nat.reduceEqDiff, Nat.reduceLT, Nat.reduceAdd, reduceCtorEq, Tryz.ntmps4, Tryz.results4, h3', h4']
            exact Fin.ren [] (by simp) (by simp) (by rfl) (by decide) (by simp [-List.map_map, -List.map_set]) (by simp [-List.map_map, -List.map_set])
          · refine spec0_of_vc (by kernel_rfl) (fn := Tryz.f4) Tryz.func4 rfl (by show 4 ≤ 46; decide) (go_start ?_)
            simp only [go_sem, ↓reduceIte, Nat.reduceEqDiff, Nat.reduceLT, Nat.reduceAdd, Int.reduceEq, reduceCtorEq, Tryz.ntmps4, Tryz.results4, h3', h4']
            exact Fin.ren [] (by simp) (by simp) (by rfl) (by decide) (by simp [-List.map_map, -List.map_set]) (by simp [-List.map_map, -List.map_set])
      · have h3' : ¬ (sd.length : Int) = 32 := by omega
        rcases hs with rfl | rfl
        · refine spec0_of_vc (by kernel_rfl) (fn := Tryz.f4) Tryz.func4 rfl (by show 4 ≤ 46; decide) (go_start ?_)
          simp only [go_sem, ↓reduceIte, Nat.reduceEqDiff, Nat.reduceLT, Nat.reduceAdd, reduceCtorEq, Tryz.ntmps4, Tryz.results4, h3']
          exact Fin.ren [] (by simp) (by simp) (by rfl) (by decide) (by simp [-List.map_map, -List.map_set]) (by simp [-List.map_map, -List.map_set])
        · refine spec0_of_vc (by kernel_rfl) (fn := Tryz.f4) Tryz.func4 rfl (by show 4 ≤ 46; decide) (go_start ?_)
          simp only [go_sem, ↓reduceIte, Nat.reduceEqDiff, Nat.reduceLT, Nat.reduceAdd, Int.reduceEq, reduceCtorEq, Tryz.ntmps4, Tryz.results4, h3']
          exact Fin.ren [] (by simp) (by simp) (by rfl) (by decide) (by simp [-List.map_map, -List.map_set]) (by simp [-List.map_map, -List.map_set])
    exact key s h0
  · have h1 : ¬ s = 1 := fun e => h0 (.inl e)
    have h2 : ¬ s = 2 := fun e => h0 (.inr e)
    refine spec0_of_vc (by kernel_rfl) (fn := Tryz.f4) Tryz.func4 rfl (by show 4 ≤ 46; decide) (go_start ?_)
    simp only [go_sem, ↓reduceIte, Nat.reduceEqDiff, Nat.reduceLT, Nat.reduceAdd, reduceCtorEq, Tryz.ntmps4, Tryz.results4, h1, h2]
    exact Fin.ren [] (by simp) (by simp) (by rfl) (by decide) (by simp [-List.map_map, -List.map_set]) (by simp [-List.map_map, -List.map_set])
/-- What sealing answers: a number, a text, an error. -/
theorem pseal_old (sd rc : List (BitVec 8)) (s bo se : Int) (fs : Bool) (next : Int) (bits : BitVec 64) (t : List (BitVec 8)) (now : Int) (hb : 0 ≤ bo) (hb2 : bo ≤ 1099511627776) (ho : overB bo se now = true) :
    Spec0 Tryz.prog 7 [.ptr 0 0, .str t, .i64 now] [some ⟨false, [.ptr 1 0, .str sd, .str rc, .i64 s, .i64 bo, .i64 se, .bool fs]⟩, some ⟨false, [.i64 next, .u64 bits]⟩] (.tup [.i64 0, .str [], .i64 11]) [some ⟨false, [.ptr 1 0, .str sd, .str rc, .i64 s, .i64 bo, .i64 se, .bool fs]⟩, some ⟨false, [.i64 next, .u64 bits]⟩] := by
  have h1 := pover_spec sd rc s bo se fs next bits now hb hb2
  rw [ho] at h1
  refine spec0_of_vc (by kernel_rfl) (fn := Tryz.f7) Tryz.func7 rfl (by show 3 ≤ 49; decide) (go_start ?_)
  simp only [go_sem, ↓reduceIte, Nat.reduceEqDiff, Nat.reduceLT, Nat.reduceAdd, reduceCtorEq, Tryz.ntmps7]
  refine goCall_mem [0, 1] (h1) (by kernel_rfl) (by simp [-List.map_map, -List.map_set]) rfl (by simp [-List.map_map, -List.map_set]) (by decide) (by simp [-List.map_map, -List.map_set]) (by simp [-List.map_map, -List.map_set]) (by simp [-List.map_map, -List.map_set]) (by simp [-List.map_map, -List.map_set]) (by simp) ?_
  simp only [go_sem, ↓reduceIte, Nat.reduceEqDiff, Nat.reduceLT, Nat.reduceAdd, Nat.reduceSub]
  exact Fin.ren [0, 1] (by simp) (by simp) (by rfl) (by decide) (by simp [-List.map_map, -List.map_set]) (by simp [-List.map_map, -List.map_set])
theorem pseal_err (sd rc : List (BitVec 8)) (s bo se : Int) (fs : Bool) (next : Int) (bits : BitVec 64) (hs : s = 1 ∨ s = 2) (t : List (BitVec 8)) (now : Int) (hb : 0 ≤ bo) (hb2 : bo ≤ 1099511627776) (ho : overB bo se now = false) (he : (boxS s sd (BitVec.ofInt 64 se) t).2 ≠ 0) :
    Spec0 Tryz.prog 7 [.ptr 0 0, .str t, .i64 now] [some ⟨false, [.ptr 1 0, .str sd, .str rc, .i64 s, .i64 bo, .i64 se, .bool fs]⟩, some ⟨false, [.i64 next, .u64 bits]⟩] (.tup [.i64 0, .str [], .i64 (boxS s sd (BitVec.ofInt 64 se) t).2]) [some ⟨false, [.ptr 1 0, .str sd, .str rc, .i64 s, .i64 bo, .i64 se, .bool fs]⟩, some ⟨false, [.i64 next, .u64 bits]⟩] := by
  have h1 := pover_spec sd rc s bo se fs next bits now hb hb2
  rw [ho] at h1
  have h2 := nseal_spec s hs sd (BitVec.ofInt 64 se) t
  generalize boxS s sd (BitVec.ofInt 64 se) t = g at *
  refine spec0_of_vc (by kernel_rfl) (fn := Tryz.f7) Tryz.func7 rfl (by show 3 ≤ 49; decide) (go_start ?_)
  simp only [go_sem, ↓reduceIte, Nat.reduceEqDiff, Nat.reduceLT, Nat.reduceAdd, reduceCtorEq, Tryz.ntmps7]
  refine goCall_mem [0, 1] (h1) (by kernel_rfl) (by simp [-List.map_map, -List.map_set]) rfl (by simp [-List.map_map, -List.map_set]) (by decide) (by simp [-List.map_map, -List.map_set]) (by simp [-List.map_map, -List.map_set]) (by simp [-List.map_map, -List.map_set]) (by simp [-List.map_map, -List.map_set]) (by simp) ?_
  simp only [go_sem, ↓reduceIte, Nat.reduceEqDiff, Nat.reduceLT, Nat.reduceAdd, Nat.reduceSub, reduceCtorEq]
  refine goCallD_pure0 (h2) ?_
  simp only [go_sem, ↓reduceIte, Nat.reduceEqDiff, Nat.reduceLT, Nat.reduceAdd, he]
  refine ⟨by kernel_rfl, ?_⟩
  exact Fin.ren [0, 1] (by simp) (by simp) (by rfl) (by decide) (by simp [-List.map_map, -List.map_set]) (by simp [-List.map_map, -List.map_set])
theorem pseal_ok (sd rc : List (BitVec 8)) (s bo se : Int) (fs : Bool) (next : Int) (bits : BitVec 64) (hs : s = 1 ∨ s = 2) (t : List (BitVec 8)) (now : Int) (hb : 0 ≤ bo) (hb2 : bo ≤ 1099511627776) (hse : 0 ≤ se) (hse2 : se ≤ 100000) (ho : overB bo se now = false) (he : (boxS s sd (BitVec.ofInt 64 se) t).2 = 0) :
    Spec0 Tryz.prog 7 [.ptr 0 0, .str t, .i64 now] [some ⟨false, [.ptr 1 0, .str sd, .str rc, .i64 s, .i64 bo, .i64 se, .bool fs]⟩, some ⟨false, [.i64 next, .u64 bits]⟩] (.tup [.i64 se, .str (boxS s sd (BitVec.ofInt 64 se) t).1, .i64 0]) [some ⟨false, [.ptr 1 0, .str sd, .str rc, .i64 s, .i64 bo, .i64 (se + 1), .bool fs]⟩, some ⟨false, [.i64 next, .u64 bits]⟩] := by
  have h1 := pover_spec sd rc s bo se fs next bits now hb hb2
  rw [ho] at h1
  have h2 := nseal_spec s hs sd (BitVec.ofInt 64 se) t
  generalize boxS s sd (BitVec.ofInt 64 se) t = g at *
  have e1 : w64 (se + 1) = se + 1 := w64_of (by omega) (by omega)
  have e2 : w64 (se + 1 - 1) = se := by rw [w64_of (by omega) (by omega)]; omega
  refine spec0_of_vc (by kernel_rfl) (fn := Tryz.f7) Tryz.func7 rfl (by show 3 ≤ 49; decide) (go_start ?_)
  simp only [go_sem, ↓reduceIte, Nat.reduceEqDiff, Nat.reduceLT, Nat.reduceAdd, reduceCtorEq, Tryz.ntmps7]
  refine goCall_mem [0, 1] (h1) (by kernel_rfl) (by simp [-List.map_map, -List.map_set]) rfl (by simp [-List.map_map, -List.map_set]) (by decide) (by simp [-List.map_map, -List.map_set]) (by simp [-List.map_map, -List.map_set]) (by simp [-List.map_map, -List.map_set]) (by simp [-List.map_map, -List.map_set]) (by simp) ?_
  simp only [go_sem, ↓reduceIte, Nat.reduceEqDiff, Nat.reduceLT, Nat.reduceAdd, Nat.reduceSub, reduceCtorEq]
  refine goCallD_pure0 (h2) ?_
  simp only [go_sem, ↓reduceIte, Nat.reduceEqDiff, Nat.reduceLT, Nat.reduceLeDiff, Nat.reduceAdd, reduceCtorEq, he, e1, e2]
  refine ⟨by kernel_rfl, ?_⟩
  exact Fin.ren [0, 1] (by simp) (by simp) (by rfl) (by decide) (by simp [-List.map_map, -List.map_set]) (by simp [-List.map_map, -List.map_set])
theorem popen_old (sd rc : List (BitVec 8)) (s bo se : Int) (fs : Bool) (next : Int) (bits : BitVec 64) (n : Int) (t : List (BitVec 8)) (now : Int) (hb : 0 ≤ bo) (hb2 : bo ≤ 1099511627776) (ho : bo + 180 ≤ now) :
    Spec0 Tryz.prog 9 [.ptr 0 0, .i64 n, .str t, .i64 now] [some ⟨false, [.ptr 1 0, .str sd, .str rc, .i64 s, .i64 bo, .i64 se, .bool fs]⟩, some ⟨false, [.i64 next, .u64 bits]⟩] (.tup [.str [], .i64 11]) [some ⟨false, [.ptr 1 0, .str sd, .str rc, .i64 s, .i64 bo, .i64 se, .bool fs]⟩, some ⟨false, [.i64 next, .u64 bits]⟩] := by
  have h1 := pold_spec sd rc s bo se fs next bits now 180 hb hb2 (by decide) (by decide)
  rw [decide_eq_true ho] at h1
  refine spec0_of_vc (by kernel_rfl) (fn := Tryz.f9) Tryz.func9 rfl (by show 4 ≤ 51; decide) (go_start ?_)
  simp only [go_sem, ↓reduceIte, Nat.reduceEqDiff, Nat.reduceLT, Nat.reduceAdd, reduceCtorEq, Tryz.ntmps9]
  refine goCall_mem [0, 1] (h1) (by kernel_rfl) (by simp [-List.map_map, -List.map_set]) rfl (by simp [-List.map_map, -List.map_set]) (by decide) (by simp [-List.map_map, -List.map_set]) (by simp [-List.map_map, -List.map_set]) (by simp [-List.map_map, -List.map_set]) (by simp [-List.map_map, -List.map_set]) (by simp) ?_
  simp only [go_sem, ↓reduceIte, Nat.reduceLT, Nat.reduceAdd, Nat.reduceSub]
  exact Fin.ren [0, 1] (by simp) (by simp) (by rfl) (by decide) (by simp [-List.map_map, -List.map_set]) (by simp [-List.map_map, -List.map_set])
theorem popen_chk (sd rc : List (BitVec 8)) (s bo se : Int) (fs : Bool) (next : Int) (bits : BitVec 64) (n : Int) (t : List (BitVec 8)) (now : Int) (hb : 0 ≤ bo) (hb2 : bo ≤ 1099511627776) (hn0 : 0 ≤ next) (hn1 : next ≤ 1099511627777) (ho : ¬ bo + 180 ≤ now) (hc : wchk next bits n ≠ 0) :
    Spec0 Tryz.prog 9 [.ptr 0 0, .i64 n, .str t, .i64 now] [some ⟨false, [.ptr 1 0, .str sd, .str rc, .i64 s, .i64 bo, .i64 se, .bool fs]⟩, some ⟨false, [.i64 next, .u64 bits]⟩] (.tup [.str [], .i64 (wchk next bits n)]) [some ⟨false, [.ptr 1 0, .str sd, .str rc, .i64 s, .i64 bo, .i64 se, .bool fs]⟩, some ⟨false, [.i64 next, .u64 bits]⟩] := by
  have h1 := pold_spec sd rc s bo se fs next bits now 180 hb hb2 (by decide) (by decide)
  rw [decide_eq_false ho] at h1
  refine spec0_of_vc (by kernel_rfl) (fn := Tryz.f9) Tryz.func9 rfl (by show 4 ≤ 51; decide) (go_start ?_)
  simp only [go_sem, ↓reduceIte, Nat.reduceEqDiff, Nat.reduceLT, Nat.reduceAdd, reduceCtorEq, Tryz.ntmps9]
  refine goCall_mem [0, 1] (h1) (by kernel_rfl) (by simp [-List.map_map, -List.map_set]) rfl (by simp [-List.map_map, -List.map_set]) (by decide) (by simp [-List.map_map, -List.map_set]) (by simp [-List.map_map, -List.map_set]) (by simp [-List.map_map, -List.map_set]) (by simp [-List.map_map, -List.map_set]) (by simp) ?_
  simp only [go_sem, ↓reduceIte, Nat.reduceEqDiff, Nat.reduceLT, Nat.reduceAdd, Nat.reduceSub, reduceCtorEq]
  refine goCall_mem [1] (wCheck_spec next bits n hn0 hn1) (by kernel_rfl) (by simp [-List.map_map, -List.map_set]) rfl (by simp [-List.map_map, -List.map_set]) (by decide) (by simp [-List.map_map, -List.map_set]) (by simp [-List.map_map, -List.map_set]) (by simp [-List.map_map, -List.map_set]) (by simp [-List.map_map, -List.map_set]) (by simp) ?_
  simp only [go_sem, ↓reduceIte, Nat.reduceEqDiff, Nat.reduceLT, Nat.reduceAdd, Nat.reduceSub, hc]
  exact Fin.ren [0, 1] (by simp) (by simp) (by rfl) (by decide) (by simp [-List.map_map, -List.map_set]) (by simp [-List.map_map, -List.map_set])
theorem popen_err (sd rc : List (BitVec 8)) (s bo se : Int) (fs : Bool) (next : Int) (bits : BitVec 64) (hs : s = 1 ∨ s = 2) (n : Int) (t : List (BitVec 8)) (now : Int) (hb : 0 ≤ bo) (hb2 : bo ≤ 1099511627776) (hn0 : 0 ≤ next) (hn1 : next ≤ 1099511627777) (ho : ¬ bo + 180 ≤ now) (hc : wchk next bits n = 0) (he : (boxO s rc (BitVec.ofInt 64 n) t).2 ≠ 0) :
    Spec0 Tryz.prog 9 [.ptr 0 0, .i64 n, .str t, .i64 now] [some ⟨false, [.ptr 1 0, .str sd, .str rc, .i64 s, .i64 bo, .i64 se, .bool fs]⟩, some ⟨false, [.i64 next, .u64 bits]⟩] (.tup [.str [], .i64 (boxO s rc (BitVec.ofInt 64 n) t).2]) [some ⟨false, [.ptr 1 0, .str sd, .str rc, .i64 s, .i64 bo, .i64 se, .bool fs]⟩, some ⟨false, [.i64 next, .u64 bits]⟩] := by
  have h1 := pold_spec sd rc s bo se fs next bits now 180 hb hb2 (by decide) (by decide)
  rw [decide_eq_false ho] at h1
  have h2 := nopen_spec s hs rc (BitVec.ofInt 64 n) t
  generalize boxO s rc (BitVec.ofInt 64 n) t = g at *
  refine spec0_of_vc (by kernel_rfl) (fn := Tryz.f9) Tryz.func9 rfl (by show 4 ≤ 51; decide) (go_start ?_)
  simp only [go_sem, ↓reduceIte, Nat.reduceEqDiff, Nat.reduceLT, Nat.reduceAdd, reduceCtorEq, Tryz.ntmps9]
  refine goCall_mem [0, 1] (h1) (by kernel_rfl) (by simp [-List.map_map, -List.map_set]) rfl (by simp [-List.map_map, -List.map_set]) (by decide) (by simp [-List.map_map, -List.map_set]) (by simp [-List.map_map, -List.map_set]) (by simp [-List.map_map, -List.map_set]) (by simp [-List.map_map, -List.map_set]) (by simp) ?_
  simp only [go_sem, ↓reduceIte, Nat.reduceEqDiff, Nat.reduceLT, Nat.reduceAdd, Nat.reduceSub, reduceCtorEq]
  refine goCall_mem [1] (wCheck_spec next bits n hn0 hn1) (by kernel_rfl) (by simp [-List.map_map, -List.map_set]) rfl (by simp [-List.map_map, -List.map_set]) (by decide) (by simp [-List.map_map, -List.map_set]) (by simp [-List.map_map, -List.map_set]) (by simp [-List.map_map, -List.map_set]) (by simp [-List.map_map, -List.map_set]) (by simp) ?_
  simp only [go_sem, ↓reduceIte, Nat.reduceEqDiff, Nat.reduceLT, Nat.reduceAdd, Nat.reduceSub, reduceCtorEq, hc]
  refine goCallD_pure0 (h2) ?_
  simp only [go_sem, ↓reduceIte, Nat.reduceEqDiff, Nat.reduceLT, Nat.reduceAdd, he]
  refine ⟨by kernel_rfl, ?_⟩
  exact Fin.ren [0, 1] (by simp) (by simp) (by rfl) (by decide) (by simp [-List.map_map, -List.map_set]) (by simp [-List.map_map, -List.map_set])
theorem popen_ok (sd rc : List (BitVec 8)) (s bo se : Int) (fs : Bool) (next : Int) (bits : BitVec 64) (hs : s = 1 ∨ s = 2) (n : Int) (t : List (BitVec 8)) (now : Int) (hb : 0 ≤ bo) (hb2 : bo ≤ 1099511627776) (hn0 : 0 ≤ next) (hn1 : next ≤ 1099511627777) (ho : ¬ bo + 180 ≤ now) (hc : wchk next bits n = 0) (he : (boxO s rc (BitVec.ofInt 64 n) t).2 = 0) :
    Spec0 Tryz.prog 9 [.ptr 0 0, .i64 n, .str t, .i64 now] [some ⟨false, [.ptr 1 0, .str sd, .str rc, .i64 s, .i64 bo, .i64 se, .bool fs]⟩, some ⟨false, [.i64 next, .u64 bits]⟩] (.tup [.str (boxO s rc (BitVec.ofInt 64 n) t).1, .i64 0]) [some ⟨false, [.ptr 1 0, .str sd, .str rc, .i64 s, .i64 bo, .i64 se, .bool fs]⟩, some ⟨false, [.i64 (wnext next n), .u64 (wbits next bits n)]⟩] := by
  have h1 := pold_spec sd rc s bo se fs next bits now 180 hb hb2 (by decide) (by decide)
  rw [decide_eq_false ho] at h1
  have h2 := nopen_spec s hs rc (BitVec.ofInt 64 n) t
  generalize boxO s rc (BitVec.ofInt 64 n) t = g at *
  refine spec0_of_vc (by kernel_rfl) (fn := Tryz.f9) Tryz.func9 rfl (by show 4 ≤ 51; decide) (go_start ?_)
  simp only [go_sem, ↓reduceIte, Nat.reduceEqDiff, Nat.reduceLT, Nat.reduceAdd, reduceCtorEq, Tryz.ntmps9]
  refine goCall_mem [0, 1] (h1) (by kernel_rfl) (by simp [-List.map_map, -List.map_set]) rfl (by simp [-List.map_map, -List.map_set]) (by decide) (by simp [-List.map_map, -List.map_set]) (by simp [-List.map_map, -List.map_set]) (by simp [-List.map_map, -List.map_set]) (by simp [-List.map_map, -List.map_set]) (by simp) ?_
  simp only [go_sem, ↓reduceIte, Nat.reduceEqDiff, Nat.reduceLT, Nat.reduceAdd, Nat.reduceSub, reduceCtorEq]
  refine goCall_mem [1] (wCheck_spec next bits n hn0 hn1) (by kernel_rfl) (by simp [-List.map_map, -List.map_set]) rfl (by simp [-List.map_map, -List.map_set]) (by decide) (by simp [-List.map_map, -List.map_set]) (by simp [-List.map_map, -List.map_set]) (by simp [-List.map_map, -List.map_set]) (by simp [-List.map_map, -List.map_set]) (by simp) ?_
  simp only [go_sem, ↓reduceIte, Nat.reduceEqDiff, Nat.reduceLT, Nat.reduceAdd, Nat.reduceSub, reduceCtorEq, hc]
  refine goCallD_pure0 (h2) ?_
  simp only [go_sem, ↓reduceIte, Nat.reduceEqDiff, Nat.reduceLT, Nat.reduceAdd, reduceCtorEq, he]
  refine ⟨by kernel_rfl, ?_⟩
  refine goCall_mem [1] (wTake_yes next bits n hn0 hn1 hc) (by kernel_rfl) (by simp [-List.map_map, -List.map_set]) rfl (by simp [-List.map_map, -List.map_set]) (by decide) (by simp [-List.map_map, -List.map_set]) (by simp [-List.map_map, -List.map_set]) (by simp [-List.map_map, -List.map_set]) (by simp [-List.map_map, -List.map_set]) (by simp) ?_
  simp only [go_sem, ↓reduceIte, Nat.reduceEqDiff, Nat.reduceLT, Nat.reduceAdd, Nat.reduceSub]
  exact Fin.ren [0, 1] (by simp) (by simp) (by rfl) (by decide) (by simp [-List.map_map, -List.map_set]) (by simp [-List.map_map, -List.map_set])
end Go.Vm
end
section
namespace Go.Vm
open Go.Proofs
set_option maxRecDepth 20000
theorem prNext_nil (qs qb qn : Int) (qa qc : List (BitVec 8)) (qf : Bool) : Spec0 Tryz.prog 34 [.ptr 0 6] [some ⟨false, [.i64 qs, .i64 qb, .i64 qn, .str qa, .str qc, .bool qf, .nilSlice]⟩] (.i64 0) [some ⟨false, [.i64 qs, .i64 qb, .i64 qn, .str qa, .str qc, .bool qf, .nilSlice]⟩] := by
  refine spec0_of_vc (by kernel_rfl) (fn := Tryz.f34) Tryz.func34 rfl (by show 1 ≤ 21; decide) (go_start ?_)
  simp only [go_sem, ↓reduceIte, Nat.reduceLT, Nat.reduceAdd, Int.reduceNeg, reduceCtorEq, Tryz.ntmps34]
  refine go_unroll 1 ?_
  simp only [go_sem, ↓reduceIte, Nat.reduceEqDiff, Nat.reduceLT, Nat.reduceSub, Int.reduceLE, Int.reduceLT, Int.reduceAdd, Int.reduceNeg]
  exact Fin.ren [0] (by simp) (by simp) (by rfl) (by decide) (by simp [-List.map_map, -List.map_set]) (by simp [-List.map_map, -List.map_set])
theorem prNext_some (qs qb qn : Int) (qa qc : List (BitVec 8)) (qf : Bool) (l : List Int) (hl : l.length ≤ 140737488351232) (hb : ∀ x ∈ l, x ≤ 1099511627776) : Spec0 Tryz.prog 34 [.ptr 0 6] [some ⟨false, [.i64 qs, .i64 qb, .i64 qn, .str qa, .str qc, .bool qf, .slice 1 0 l.length 1]⟩, some ⟨false, l.map .i64⟩] (.i64 (maxL l + 1)) [some ⟨false, [.i64 qs, .i64 qb, .i64 qn, .str qa, .str qc, .bool qf, .slice 1 0 l.length 1]⟩, some ⟨false, l.map .i64⟩] := by
  have h1 := maxL_ge l
  have h2 := maxL_le l 1099511627776 (by decide) hb
  have e1 : w64 (maxL l + 1) = maxL l + 1 := w64_of (by omega) (by omega)
  refine spec0_of_vc (by kernel_rfl) (fn := Tryz.f34) Tryz.func34 rfl (by show 1 ≤ 21; decide) (go_start ?_)
  simp only [go_sem, ↓reduceIte, Nat.reduceLT, Nat.reduceAdd, Int.reduceNeg, reduceCtorEq, Tryz.ntmps34]
  refine go_loop (fun j st => ∃ i : Nat, i + j = l.length ∧ st = ⟨[(3, .i64 (maxL (l.take i))), (9, .slice 1 0 l.length 1), (10, .i64 l.length), (11, .i64 i)], [some ⟨false, [.i64 qs, .i64 qb, .i64 qn, .str qa, .str qc, .bool qf, .slice 1 0 l.length 1]⟩, some ⟨false, l.map .i64⟩]⟩) ?_ ?_
  · exact start_mk (l.length) ⟨[(3, .i64 (maxL (l.take (0 : Nat)))), (9, .slice 1 0 l.length 1), (10, .i64 l.length), (11, .i64 (0 : Nat))], [some ⟨false, [.i64 qs, .i64 qb, .i64 qn, .str qa, .str qc, .bool qf, .slice 1 0 l.length 1]⟩, some ⟨false, l.map .i64⟩]⟩ (by simp [St.get, lookS, maxL]) rfl (fun _ _ h => h) ⟨0, by omega, rfl⟩
  rintro j st ⟨i, hi, rfl⟩ _
  simp only [go_sem, ↓reduceIte, Nat.reduceEqDiff, Nat.reduceLT, Nat.reduceAdd]
  by_cases h0 : i < l.length
  · have h0' : (i : Int) < (l.length : Int) := by omega
    simp only [go_sem, ↓reduceIte, Nat.reduceEqDiff, Nat.reduceLT, h0', h0, getD_i64 h0]
    refine ⟨by omega, ?_⟩
    refine again_mk (j - 1) ⟨[(3, .i64 (maxL (l.take (i + 1 : Nat)))), (9, .slice 1 0 l.length 1), (10, .i64 l.length), (11, .i64 (i + 1 : Nat))], [some ⟨false, [.i64 qs, .i64 qb, .i64 qn, .str qa, .str qc, .bool qf, .slice 1 0 l.length 1]⟩, some ⟨false, l.map .i64⟩]⟩ (by omega) ?_ rfl (fun _ _ h => h) ⟨i + 1, by omega, rfl⟩
    have hw1 : w64 ((i : Int) + 1) = ((i + 1 : Nat) : Int) := by rw [w64_of (by omega) (by omega)]; omega
    simp [St.get, lookS, hw1, take_snoc_i h0, maxL_snoc, mx]
  · have h0' : ¬ (i : Int) < (l.length : Int) := by omega
    simp only [go_sem, ↓reduceIte, h0']
    rw [List.take_of_length_le (by omega), e1]
    exact Fin.ren [0, 1] (by simp) (by simp) (by rfl) (by decide) (by simp [-List.map_map, -List.map_set]) (by simp [-List.map_map, -List.map_set])
theorem prCheck_nil (qs qb qn : Int) (qa qc : List (BitVec 8)) (qf : Bool) (n : Int) : Spec0 Tryz.prog 25 [.ptr 0 6, .i64 n] [some ⟨false, [.i64 qs, .i64 qb, .i64 qn, .str qa, .str qc, .bool qf, .nilSlice]⟩] (.i64 (rchk [] n)) [some ⟨false, [.i64 qs, .i64 qb, .i64 qn, .str qa, .str qc, .bool qf, .nilSlice]⟩] := by
  unfold rchk
  by_cases h : n < 0 ∨ 1099511627776 < n
  · refine spec0_of_vc (by kernel_rfl) (fn := Tryz.f25) Tryz.func25 rfl (by show 2 ≤ 20; decide) (go_start ?_)
    simp only [go_sem, ↓reduceIte, Nat.reduceEqDiff, Nat.reduceLT, Tryz.ntmps25]
    refine goCall_pure0 (outside_spec _ _ _) ?_
    simp only [go_sem, ↓reduceIte, Nat.reduceLT, h]
    exact Fin.ren [0] (by simp) (by simp) (by rfl) (by decide) (by simp [-List.map_map, -List.map_set]) (by simp [-List.map_map, -List.map_set])
  · have e1 : w64 (n + 64) = n + 64 := w64_of (by omega) (by omega)
    have e2 : ¬ n + 64 < 0 := by omega
    have e3 : ¬ n + 64 < maxL [] + 1 := by show ¬ n + 64 < -1 + 1; omega
    refine spec0_of_vc (by kernel_rfl) (fn := Tryz.f25) Tryz.func25 rfl (by show 2 ≤ 20; decide) (go_start ?_)
    simp only [go_sem, ↓reduceIte, Nat.reduceEqDiff, Nat.reduceLT, Tryz.ntmps25]
    refine goCall_pure0 (outside_spec _ _ _) ?_
    simp only [go_sem, ↓reduceIte, Nat.reduceEqDiff, Nat.reduceLT, Nat.reduceAdd, reduceCtorEq, h]
    refine goCall_pure0 (has_nil _) ?_
    simp only [go_sem, ↓reduceIte, Nat.reduceEqDiff, Nat.reduceLT, reduceCtorEq, e1, e3, or_self]
    refine goCall_mem [0] (prNext_nil qs qb qn qa qc qf) (by kernel_rfl) (by simp [-List.map_map, -List.map_set]) rfl (by simp [-List.map_map, -List.map_set]) (by decide) (by simp [-List.map_map, -List.map_set]) (by simp [-List.map_map, -List.map_set]) (by simp [-List.map_map, -List.map_set]) (by simp [-List.map_map, -List.map_set]) (by simp) ?_
    simp only [go_sem, ↓reduceIte, Nat.reduceEqDiff, Nat.reduceLT, Nat.reduceSub, e2]
    exact Fin.ren [0] (by simp) (by simp) (by rfl) (by decide) (by simp [-List.map_map, -List.map_set]) (by simp [-List.map_map, -List.map_set])
theorem prCheck_some (qs qb qn : Int) (qa qc : List (BitVec 8)) (qf : Bool) (l : List Int) (n : Int) (hl : l.length ≤ 140737488351232) (hb : ∀ x ∈ l, x ≤ 1099511627776) : Spec0 Tryz.prog 25 [.ptr 0 6, .i64 n] [some ⟨false, [.i64 qs, .i64 qb, .i64 qn, .str qa, .str qc, .bool qf, .slice 1 0 l.length 1]⟩, some ⟨false, l.map .i64⟩] (.i64 (rchk l n)) [some ⟨false, [.i64 qs, .i64 qb, .i64 qn, .str qa, .str qc, .bool qf, .slice 1 0 l.length 1]⟩, some ⟨false, l.map .i64⟩] := by
  unfold rchk
  by_cases h : n < 0 ∨ 1099511627776 < n
  · refine spec0_of_vc (by kernel_rfl) (fn := Tryz.f25) Tryz.func25 rfl (by show 2 ≤ 20; decide) (go_start ?_)
    simp only [go_sem, ↓reduceIte, Nat.reduceEqDiff, Nat.reduceLT, Nat.reduceAdd, Tryz.ntmps25]
    refine goCall_pure0 (outside_spec _ _ _) ?_
    simp only [go_sem, ↓reduceIte, Nat.reduceLT, h]
    exact Fin.ren [0, 1] (by simp) (by simp) (by rfl) (by decide) (by simp [-List.map_map, -List.map_set]) (by simp [-List.map_map, -List.map_set])
  · have e1 : w64 (n + 64) = n + 64 := w64_of (by omega) (by omega)
    refine spec0_of_vc (by kernel_rfl) (fn := Tryz.f25) Tryz.func25 rfl (by show 2 ≤ 20; decide) (go_start ?_)
    simp only [go_sem, ↓reduceIte, Nat.reduceEqDiff, Nat.reduceLT, Nat.reduceAdd, Tryz.ntmps25]
    refine goCall_pure0 (outside_spec _ _ _) ?_
    simp only [go_sem, ↓reduceIte, Nat.reduceEqDiff, Nat.reduceLT, Nat.reduceAdd, reduceCtorEq, h]
    by_cases h2 : n ∈ l
    · refine goCall_mem [1] (has_some l n hl) (by kernel_rfl) (by simp [-List.map_map, -List.map_set]) rfl (by simp [-List.map_map, -List.map_set]) (by decide) (by simp [-List.map_map, -List.map_set]) (by simp [-List.map_map, -List.map_set]) (by simp [-List.map_map, -List.map_set]) (by simp [-List.map_map, -List.map_set]) (by simp) ?_
      simp only [go_sem, ↓reduceIte, Nat.reduceEqDiff, Nat.reduceLT, Nat.reduceAdd, Nat.reduceSub, reduceCtorEq, h2, true_or]
      exact Fin.ren [0, 1] (by simp) (by simp) (by rfl) (by decide) (by simp [-List.map_map, -List.map_set]) (by simp [-List.map_map, -List.map_set])
    · refine goCall_mem [1] (has_some l n hl) (by kernel_rfl) (by simp [-List.map_map, -List.map_set]) rfl (by simp [-List.map_map, -List.map_set]) (by decide) (by simp [-List.map_map, -List.map_set]) (by simp [-List.map_map, -List.map_set]) (by simp [-List.map_map, -List.map_set]) (by simp [-List.map_map, -List.map_set]) (by simp) ?_
      simp only [go_sem, ↓reduceIte, Nat.reduceEqDiff, Nat.reduceLT, Nat.reduceAdd, Nat.reduceSub, reduceCtorEq, h2, false_or, e1]
      by_cases h3 : n + 64 < maxL l + 1
      · refine goCall_mem [0, 1] (prNext_some qs qb qn qa qc qf l hl hb) (by kernel_rfl) (by simp [-List.map_map, -List.map_set]) rfl (by simp [-List.map_map, -List.map_set]) (by decide) (by simp [-List.map_map, -List.map_set]) (by simp [-List.map_map, -List.map_set]) (by simp [-List.map_map, -List.map_set]) (by simp [-List.map_map, -List.map_set]) (by simp) ?_
        simp only [go_sem, ↓reduceIte, Nat.reduceEqDiff, Nat.reduceLT, Nat.reduceAdd, Nat.reduceSub, h3]
        exact Fin.ren [0, 1] (by simp) (by simp) (by rfl) (by decide) (by simp [-List.map_map, -List.map_set]) (by simp [-List.map_map, -List.map_set])
      · refine goCall_mem [0, 1] (prNext_some qs qb qn qa qc qf l hl hb) (by kernel_rfl) (by simp [-List.map_map, -List.map_set]) rfl (by simp [-List.map_map, -List.map_set]) (by decide) (by simp [-List.map_map, -List.map_set]) (by simp [-List.map_map, -List.map_set]) (by simp [-List.map_map, -List.map_set]) (by simp [-List.map_map, -List.map_set]) (by simp) ?_
        simp only [go_sem, ↓reduceIte, Nat.reduceEqDiff, Nat.reduceLT, Nat.reduceAdd, Nat.reduceSub, h3]
        exact Fin.ren [0, 1] (by simp) (by simp) (by rfl) (by decide) (by simp [-List.map_map, -List.map_set]) (by simp [-List.map_map, -List.map_set])
theorem prTake_nil_yes (qs qb qn : Int) (qa qc : List (BitVec 8)) (qf : Bool) (n : Int) (h : rchk [] n = 0) : Spec0 Tryz.prog 26 [.ptr 0 6, .i64 n] [some ⟨false, [.i64 qs, .i64 qb, .i64 qn, .str qa, .str qc, .bool qf, .nilSlice]⟩] (.i64 0) [some ⟨false, [.i64 qs, .i64 qb, .i64 qn, .str qa, .str qc, .bool qf, .slice 1 0 1 1]⟩, some ⟨false, [.i64 n]⟩] := by
  refine spec0_of_vc (by kernel_rfl) (fn := Tryz.f26) Tryz.func26 rfl (by show 2 ≤ 22; decide) (go_start ?_)
  simp only [go_sem, ↓reduceIte, Nat.reduceEqDiff, Nat.reduceLT, reduceCtorEq, Tryz.ntmps26]
  refine goCall_mem [0] (prCheck_nil qs qb qn qa qc qf n) (by kernel_rfl) (by simp [-List.map_map, -List.map_set]) rfl (by simp [-List.map_map, -List.map_set]) (by decide) (by simp [-List.map_map, -List.map_set]) (by simp [-List.map_map, -List.map_set]) (by simp [-List.map_map, -List.map_set]) (by simp [-List.map_map, -List.map_set]) (by simp) ?_
  simp only [go_sem, ↓reduceIte, Nat.reduceEqDiff, Nat.reduceLT, Nat.reduceLeDiff, Nat.reduceAdd, Nat.reduceSub, Nat.reduceMul, Nat.reduceDiv, reduceCtorEq, h]
  exact Fin.ren [0, 2] (by simp) (by simp) (by rfl) (by decide) (by simp [-List.map_map, -List.map_set]) (by simp [-List.map_map, -List.map_set])
theorem prTake_yes (qs qb qn : Int) (qa qc : List (BitVec 8)) (qf : Bool) (l : List Int) (n : Int) (hl : l.length ≤ 17592186043904) (hb : ∀ x ∈ l, x ≤ 1099511627776) (h : rchk l n = 0) : Spec0 Tryz.prog 26 [.ptr 0 6, .i64 n] [some ⟨false, [.i64 qs, .i64 qb, .i64 qn, .str qa, .str qc, .bool qf, .slice 1 0 l.length 1]⟩, some ⟨false, l.map .i64⟩] (.i64 0) [some ⟨false, [.i64 qs, .i64 qb, .i64 qn, .str qa, .str qc, .bool qf, .slice 2 0 (l ++ [n]).length 1]⟩, none, some ⟨false, (l ++ [n]).map .i64⟩] := by
  refine spec0_of_vc (by kernel_rfl) (fn := Tryz.f26) Tryz.func26 rfl (by show 2 ≤ 22; decide) (go_start ?_)
  simp only [go_sem, ↓reduceIte, Nat.reduceEqDiff, Nat.reduceLT, Nat.reduceAdd, reduceCtorEq, Tryz.ntmps26]
  refine goCall_mem [0, 1] (prCheck_some qs qb qn qa qc qf l n (by omega) hb) (by kernel_rfl) (by simp [-List.map_map, -List.map_set]) rfl (by simp [-List.map_map, -List.map_set]) (by decide) (by simp [-List.map_map, -List.map_set]) (by simp [-List.map_map, -List.map_set]) (by simp [-List.map_map, -List.map_set]) (by simp [-List.map_map, -List.map_set]) (by simp) ?_
  simp only [go_sem, ↓reduceIte, Nat.reduceEqDiff, Nat.reduceLT, Nat.reduceLeDiff, Nat.reduceAdd, Nat.reduceSub, reduceCtorEq, h]
  refine ⟨⟨by omega, by omega⟩, ?_⟩
  exact Fin.ren [0, 1, 3] (by simp) (by simp) (by rfl) (by decide) (by simp [-List.map_map, -List.map_set]) (by simp [-List.map_map, -List.map_set])
end Go.Vm
end
section
namespace Go.Vm
open Go.Proofs
set_option maxRecDepth 20000
theorem keys_spec (a b : List (BitVec 8)) : Spec0 Tryz.prog 17 [.slice 0 0 2 1] [some ⟨false, [.str a, .str b]⟩] (.bool (if a.length = 32 then decide (b.length = 32) else false)) [some ⟨false, [.str a, .str b]⟩] := by
  by_cases h1 : a.length = 32
  · have h1' : (a.length : Int) = 32 := by omega
    rw [if_pos h1]
    by_cases h2 : b.length = 32
    · have h2' : (b.length : Int) = 32 := by omega
      rw [decide_eq_true h2]
      refine spec0_of_vc (by kernel_rfl) (fn := Tryz.f17) Tryz.func17 rfl (by show 1 ≤ 15; decide) (go_start ?_)
      simp only [go_sem, ↓reduceIte, Nat.reduceLT, reduceCtorEq, Tryz.ntmps17]
      refine go_unroll 3 ?_
      simp only [go_sem, ↓reduceIte, Nat.reduceEqDiff, Nat.reduceLT, Nat.reduceAdd, Nat.reduceSub, Int.reduceLE, Int.reduceLT, Int.reduceToNat, Int.reduceAdd, Int.reduceNeg, h1', h2']
      exact Fin.ren [0] (by simp) (by simp) (by rfl) (by decide) (by simp [-List.map_map, -List.map_set]) (by simp [-List.map_map, -List.map_set])
    · have h2' : ¬ (b.length : Int) = 32 := by omega
      rw [decide_eq_false h2]
      refine spec0_of_vc (by kernel_rfl) (fn := Tryz.f17) Tryz.func17 rfl (by show 1 ≤ 15; decide) (go_start ?_)
      simp only [go_sem, ↓reduceIte, Nat.reduceLT, reduceCtorEq, Tryz.ntmps17]
      refine go_unroll 3 ?_
      simp only [go_sem, ↓reduceIte, Nat.reduceEqDiff, Nat.reduceLT, Nat.reduceAdd, Nat.reduceSub, Int.reduceLE, Int.reduceLT, Int.reduceToNat, Int.reduceAdd, Int.reduceNeg, h1', h2']
      exact Fin.ren [0] (by simp) (by simp) (by rfl) (by decide) (by simp [-List.map_map, -List.map_set]) (by simp [-List.map_map, -List.map_set])
  · have h1' : ¬ (a.length : Int) = 32 := by omega
    rw [if_neg h1]
    refine spec0_of_vc (by kernel_rfl) (fn := Tryz.f17) Tryz.func17 rfl (by show 1 ≤ 15; decide) (go_start ?_)
    simp only [go_sem, ↓reduceIte, Nat.reduceLT, reduceCtorEq, Tryz.ntmps17]
    refine go_unroll 3 ?_
    simp only [go_sem, ↓reduceIte, Nat.reduceEqDiff, Nat.reduceLT, Nat.reduceAdd, Nat.reduceSub, Int.reduceLT, Int.reduceToNat, h1']
    exact Fin.ren [0] (by simp) (by simp) (by rfl) (by decide) (by simp [-List.map_map, -List.map_set]) (by simp [-List.map_map, -List.map_set])
theorem rpnew_spec (s : Int) (hs : s = 1 ∨ s = 2) (sd rc : List (BitVec 8)) (hsd : sd.length = 32) (hrc : rc.length = 32) (bo : Int) (hb : 0 ≤ bo) (hb2 : bo ≤ 1099511627776) (fs : Bool) :
    Spec0 Tryz.prog 5 [.i64 s, .agg [.str sd, .str rc], .i64 bo, .bool fs] [] (.tup [.ptr 0 0, .i64 0]) [some ⟨false, [.i64 s, .i64 bo, .i64 0, .str sd, .str rc, .bool fs, .nilSlice]⟩] := by
  have h1 : ¬ (s < 1 ∨ 2 < s) := by omega
  have h2 : ¬ (bo < 0 ∨ 1099511627776 < bo) := by omega
  have hk := keys_spec sd rc
  rw [if_pos hsd, decide_eq_true hrc] at hk
  refine spec0_of_vc (by kernel_rfl) (fn := Tryz.f5) Tryz.func5 rfl (by show 4 ≤ 31; decide) (go_start ?_)
  simp only [go_sem, ↓reduceIte, Nat.reduceLT, Nat.reduceAdd, reduceCtorEq, Tryz.ntmps5]
  refine goCall_pure0 (outside_spec _ _ _) ?_
  simp only [go_sem, ↓reduceIte, Nat.reduceEqDiff, Nat.reduceLT, Nat.reduceLeDiff, Nat.reduceAdd, h1]
  refine goCall_mem [1] (hk) (by kernel_rfl) (by simp [-List.map_map, -List.map_set]) rfl (by simp [-List.map_map, -List.map_set]) (by decide) (by simp [-List.map_map, -List.map_set]) (by simp [-List.map_map, -List.map_set]) (by simp [-List.map_map, -List.map_set]) (by simp [-List.map_map, -List.map_set]) (by simp) ?_
  simp only [go_sem, ↓reduceIte, Nat.reduceEqDiff, Nat.reduceLT, Nat.reduceAdd, Nat.reduceSub, reduceCtorEq]
  refine goCall_pure0 (outside_spec _ _ _) ?_
  simp only [go_sem, ↓reduceIte, Nat.reduceEqDiff, Nat.reduceLT, Nat.reduceLeDiff, Nat.reduceAdd, reduceCtorEq, h2]
  exact Fin.ren [2] (by simp) (by simp) (by rfl) (by decide) (by simp [-List.map_map, -List.map_set]) (by simp [-List.map_map, -List.map_set])
theorem rpnew_bad (s : Int) (sd rc : List (BitVec 8)) (bo : Int) (fs : Bool) (h : ¬ ((s = 1 ∨ s = 2) ∧ sd.length = 32 ∧ rc.length = 32 ∧ 0 ≤ bo ∧ bo ≤ 1099511627776)) :
    Spec0 Tryz.prog 5 [.i64 s, .agg [.str sd, .str rc], .i64 bo, .bool fs] [] (.tup [.nilPtr, .i64 1]) [] := by
  by_cases h1 : s < 1 ∨ 2 < s
  · refine spec0_of_vc (by kernel_rfl) (fn := Tryz.f5) Tryz.func5 rfl (by show 4 ≤ 31; decide) (go_start ?_)
    simp only [go_sem, ↓reduceIte, Nat.reduceLT, Nat.reduceAdd, reduceCtorEq, Tryz.ntmps5]
    refine goCall_pure0 (outside_spec _ _ _) ?_
    simp only [go_sem, ↓reduceIte, Nat.reduceEqDiff, Nat.reduceLT, reduceCtorEq, h1]
    exact Fin.ren [] (by simp) (by simp) (by rfl) (by decide) (by simp [-List.map_map, -List.map_set]) (by simp [-List.map_map, -List.map_set])
  · have hk := keys_spec sd rc
    by_cases h3 : sd.length = 32
    · rw [if_pos h3] at hk
      by_cases h4 : rc.length = 32
      · rw [decide_eq_true h4] at hk
        have h2 : bo < 0 ∨ 1099511627776 < bo := by omega
        refine spec0_of_vc (by kernel_rfl) (fn := Tryz.f5) Tryz.func5 rfl (by show 4 ≤ 31; decide) (go_start ?_)
        simp only [go_sem, ↓reduceIte, Nat.reduceLT, Nat.reduceAdd, reduceCtorEq, Tryz.ntmps5]
        refine goCall_pure0 (outside_spec _ _ _) ?_
        simp only [go_sem, ↓reduceIte, Nat.reduceEqDiff, Nat.reduceLT, Nat.reduceLeDiff, Nat.reduceAdd, h1]
        refine goCall_mem [1] (hk) (by kernel_rfl) (by simp [-List.map_map, -List.map_set]) rfl (by simp [-List.map_map, -List.map_set]) (by decide) (by simp [-List.map_map, -List.map_set]) (by simp [-List.map_map, -List.map_set]) (by simp [-List.map_map, -List.map_set]) (by simp [-List.map_map, -List.map_set]) (by simp) ?_
        simp only [go_sem, ↓reduceIte, Nat.reduceEqDiff, Nat.reduceLT, Nat.reduceAdd, Nat.reduceSub, reduceCtorEq]
        refine goCall_pure0 (outside_spec _ _ _) ?_
        simp only [go_sem, ↓reduceIte, Nat.reduceEqDiff, Nat.reduceLT, h2]
        exact Fin.ren [] (by simp) (by simp) (by rfl) (by decide) (by simp [-List.map_map, -List.map_set]) (by simp [-List.map_map, -List.map_set])
      · rw [decide_eq_false h4] at hk
        refine spec0_of_vc (by kernel_rfl) (fn := Tryz.f5) Tryz.func5 rfl (by show 4 ≤ 31; decide) (go_start ?_)
        simp only [go_sem, ↓reduceIte, Nat.reduceLT, Nat.reduceAdd, reduceCtorEq, Tryz.ntmps5]
        refine goCall_pure0 (outside_spec _ _ _) ?_
        simp only [go_sem, ↓reduceIte, Nat.reduceEqDiff, Nat.reduceLT, Nat.reduceLeDiff, Nat.reduceAdd, h1]
        refine goCall_mem [1] (hk) (by kernel_rfl) (by simp [-List.map_map, -List.map_set]) rfl (by simp [-List.map_map, -List.map_set]) (by decide) (by simp [-List.map_map, -List.map_set]) (by simp [-List.map_map, -List.map_set]) (by simp [-List.map_map, -List.map_set]) (by simp [-List.map_map, -List.map_set]) (by simp) ?_
        simp only [go_sem, ↓reduceIte, Nat.reduceEqDiff, Nat.reduceLT, Nat.reduceAdd, Nat.reduceSub, reduceCtorEq]
        exact Fin.ren [] (by simp) (by simp) (by rfl) (by decide) (by simp [-List.map_map, -List.map_set]) (by simp [-List.map_map, -List.map_set])
    · rw [if_neg h3] at hk
      refine spec0_of_vc (by kernel_rfl) (fn := Tryz.f5) Tryz.func5 rfl (by show 4 ≤ 31; decide) (go_start ?_)
      simp only [go_sem, ↓reduceIte, Nat.reduceLT, Nat.reduceAdd, reduceCtorEq, Tryz.ntmps5]
      refine goCall_pure0 (outside_spec _ _ _) ?_
      simp only [go_sem, ↓reduceIte, Nat.reduceEqDiff, Nat.reduceLT, Nat.reduceLeDiff, Nat.reduceAdd, h1]
      refine goCall_mem [1] (hk) (by kernel_rfl) (by simp [-List.map_map, -List.map_set]) rfl (by simp [-List.map_map, -List.map_set]) (by decide) (by simp [-List.map_map, -List.map_set]) (by simp [-List.map_map, -List.map_set]) (by simp [-List.map_map, -List.map_set]) (by simp [-List.map_map, -List.map_set]) (by simp) ?_
      simp only [go_sem, ↓reduceIte, Nat.reduceEqDiff, Nat.reduceLT, Nat.reduceAdd, Nat.reduceSub, reduceCtorEq]
      exact Fin.ren [] (by simp) (by simp) (by rfl) (by decide) (by simp [-List.map_map, -List.map_set]) (by simp [-List.map_map, -List.map_set])
theorem rpoverN (sd rc : List (BitVec 8)) (s bo se : Int) (fs : Bool) (now : Int) (hb : 0 ≤ bo) (hb2 : bo ≤ 1099511627776) : Spec0 Tryz.prog 14 [.ptr 0 0, .i64 now] [some ⟨false, [.i64 s, .i64 bo, .i64 se, .str sd, .str rc, .bool fs, .nilSlice]⟩] (.bool (overB bo se now)) [some ⟨false, [.i64 s, .i64 bo, .i64 se, .str sd, .str rc, .bool fs, .nilSlice]⟩] := by
  have e : w64 (bo + 180) = bo + 180 := w64_of (by omega) (by omega)
  unfold overB
  by_cases h : bo + 180 ≤ now
  · have h' := eq_true h
    refine spec0_of_vc (by kernel_rfl) (fn := Tryz.f14) Tryz.func14 rfl (by show 2 ≤ 19; decide) (go_start ?_)
    simp only [go_sem, ↓reduceIte, Nat.reduceEqDiff, Nat.reduceLT, Nat.reduceAdd, reduceCtorEq, Tryz.ntmps14, Tryz.results14, e, h']
    exact Fin.ren [0] (by simp) (by simp) (by rfl) (by decide) (by simp [-List.map_map, -List.map_set]) (by simp [-List.map_map, -List.map_set])
  · have h' := eq_false h
    refine spec0_of_vc (by kernel_rfl) (fn := Tryz.f14) Tryz.func14 rfl (by show 2 ≤ 19; decide) (go_start ?_)
    simp only [go_sem, ↓reduceIte, Nat.reduceEqDiff, Nat.reduceLT, Nat.reduceAdd, reduceCtorEq, Tryz.ntmps14, Tryz.results14, e, h']
    exact Fin.ren [0] (by simp) (by simp) (by rfl) (by decide) (by simp [-List.map_map, -List.map_set]) (by simp [-List.map_map, -List.map_set])
theorem rpstaleN (sd rc : List (BitVec 8)) (s bo se : Int) (fs : Bool) (now : Int) (hb : 0 ≤ bo) (hb2 : bo ≤ 1099511627776) : Spec0 Tryz.prog 12 [.ptr 0 0, .i64 now] [some ⟨false, [.i64 s, .i64 bo, .i64 se, .str sd, .str rc, .bool fs, .nilSlice]⟩] (.bool (staleB bo se fs now)) [some ⟨false, [.i64 s, .i64 bo, .i64 se, .str sd, .str rc, .bool fs, .nilSlice]⟩] := by
  have e : w64 (bo + 120) = bo + 120 := w64_of (by omega) (by omega)
  have ho := rpoverN sd rc s bo se fs now hb hb2
  unfold staleB
  generalize overB bo se now = o at *
  cases o
  · cases fs
    · refine spec0_of_vc (by kernel_rfl) (fn := Tryz.f12) Tryz.func12 rfl (by show 2 ≤ 23; decide) (go_start ?_)
      simp only [go_sem, ↓reduceIte, Nat.reduceEqDiff, Nat.reduceLT, reduceCtorEq, Tryz.ntmps12]
      refine goCall_mem [0] (ho) (by kernel_rfl) (by simp [-List.map_map, -List.map_set]) rfl (by simp [-List.map_map, -List.map_set]) (by decide) (by simp [-List.map_map, -List.map_set]) (by simp [-List.map_map, -List.map_set]) (by simp [-List.map_map, -List.map_set]) (by simp [-List.map_map, -List.map_set]) (by simp) ?_
      simp only [go_sem, ↓reduceIte, Nat.reduceEqDiff, Nat.reduceLT, Nat.reduceAdd, Nat.reduceSub, reduceCtorEq]
      exact Fin.ren [0] (by simp) (by simp) (by rfl) (by decide) (by simp [-List.map_map, -List.map_set]) (by simp [-List.map_map, -List.map_set])
    · refine spec0_of_vc (by kernel_rfl) (fn := Tryz.f12) Tryz.func12 rfl (by show 2 ≤ 23; decide) (go_start ?_)
      simp only [go_sem, ↓reduceIte, Nat.reduceEqDiff, Nat.reduceLT, reduceCtorEq, Tryz.ntmps12]
      refine goCall_mem [0] (ho) (by kernel_rfl) (by simp [-List.map_map, -List.map_set]) rfl (by simp [-List.map_map, -List.map_set]) (by decide) (by simp [-List.map_map, -List.map_set]) (by simp [-List.map_map, -List.map_set]) (by simp [-List.map_map, -List.map_set]) (by simp [-List.map_map, -List.map_set]) (by simp) ?_
      simp only [go_sem, ↓reduceIte, Nat.reduceEqDiff, Nat.reduceLT, Nat.reduceAdd, Nat.reduceSub, reduceCtorEq, e]
      exact Fin.ren [0] (by simp) (by simp) (by rfl) (by decide) (by simp [-List.map_map, -List.map_set]) (by simp [-List.map_map, -List.map_set])
  · refine spec0_of_vc (by kernel_rfl) (fn := Tryz.f12) Tryz.func12 rfl (by show 2 ≤ 23; decide) (go_start ?_)
    simp only [go_sem, ↓reduceIte, Nat.reduceEqDiff, Nat.reduceLT, reduceCtorEq, Tryz.ntmps12]
    refine goCall_mem [0] (ho) (by kernel_rfl) (by simp [-List.map_map, -List.map_set]) rfl (by simp [-List.map_map, -List.map_set]) (by decide) (by simp [-List.map_map, -List.map_set]) (by simp [-List.map_map, -List.map_set]) (by simp [-List.map_map, -List.map_set]) (by simp [-List.map_map, -List.map_set]) (by simp) ?_
    simp only [go_sem, ↓reduceIte, Nat.reduceEqDiff, Nat.reduceLT, Nat.reduceSub, reduceCtorEq]
    exact Fin.ren [0] (by simp) (by simp) (by rfl) (by decide) (by simp [-List.map_map, -List.map_set]) (by simp [-List.map_map, -List.map_set])
theorem rpsealN_old (sd rc : List (BitVec 8)) (s bo se : Int) (fs : Bool) (t : List (BitVec 8)) (now : Int) (hb : 0 ≤ bo) (hb2 : bo ≤ 1099511627776) (ho : overB bo se now = true) : Spec0 Tryz.prog 8 [.ptr 0 0, .str t, .i64 now] [some ⟨false, [.i64 s, .i64 bo, .i64 se, .str sd, .str rc, .bool fs, .nilSlice]⟩] (.tup [.i64 0, .str [], .i64 11]) [some ⟨false, [.i64 s, .i64 bo, .i64 se, .str sd, .str rc, .bool fs, .nilSlice]⟩] := by
  have h1 := rpoverN sd rc s bo se fs now hb hb2
  rw [ho] at h1
  refine spec0_of_vc (by kernel_rfl) (fn := Tryz.f8) Tryz.func8 rfl (by show 3 ≤ 49; decide) (go_start ?_)
  simp only [go_sem, ↓reduceIte, Nat.reduceEqDiff, Nat.reduceLT, Nat.reduceAdd, reduceCtorEq, Tryz.ntmps8]
  refine goCall_mem [0] (h1) (by kernel_rfl) (by simp [-List.map_map, -List.map_set]) rfl (by simp [-List.map_map, -List.map_set]) (by decide) (by simp [-List.map_map, -List.map_set]) (by simp [-List.map_map, -List.map_set]) (by simp [-List.map_map, -List.map_set]) (by simp [-List.map_map, -List.map_set]) (by simp) ?_
  simp only [go_sem, ↓reduceIte, Nat.reduceEqDiff, Nat.reduceLT, Nat.reduceSub]
  exact Fin.ren [0] (by simp) (by simp) (by rfl) (by decide) (by simp [-List.map_map, -List.map_set]) (by simp [-List.map_map, -List.map_set])
theorem rpsealN_err (sd rc : List (BitVec 8)) (s bo se : Int) (fs : Bool) (hs : s = 1 ∨ s = 2) (t : List (BitVec 8)) (now : Int) (hb : 0 ≤ bo) (hb2 : bo ≤ 1099511627776) (ho : overB bo se now = false) (he : (boxS s sd (BitVec.ofInt 64 se) t).2 ≠ 0) : Spec0 Tryz.prog 8 [.ptr 0 0, .str t, .i64 now] [some ⟨false, [.i64 s, .i64 bo, .i64 se, .str sd, .str rc, .bool fs, .nilSlice]⟩] (.tup [.i64 0, .str [], .i64 (boxS s sd (BitVec.ofInt 64 se) t).2]) [some ⟨false, [.i64 s, .i64 bo, .i64 se, .str sd, .str rc, .bool fs, .nilSlice]⟩] := by
  have h1 := rpoverN sd rc s bo se fs now hb hb2
  rw [ho] at h1
  have h2 := rbox_seal s hs sd (BitVec.ofInt 64 se) t
  generalize boxS s sd (BitVec.ofInt 64 se) t = g at *
  refine spec0_of_vc (by kernel_rfl) (fn := Tryz.f8) Tryz.func8 rfl (by show 3 ≤ 49; decide) (go_start ?_)
  simp only [go_sem, ↓reduceIte, Nat.reduceEqDiff, Nat.reduceLT, Nat.reduceAdd, reduceCtorEq, Tryz.ntmps8]
  refine goCall_mem [0] (h1) (by kernel_rfl) (by simp [-List.map_map, -List.map_set]) rfl (by simp [-List.map_map, -List.map_set]) (by decide) (by simp [-List.map_map, -List.map_set]) (by simp [-List.map_map, -List.map_set]) (by simp [-List.map_map, -List.map_set]) (by simp [-List.map_map, -List.map_set]) (by simp) ?_
  simp only [go_sem, ↓reduceIte, Nat.reduceEqDiff, Nat.reduceLT, Nat.reduceAdd, Nat.reduceSub, reduceCtorEq]
  refine goCallD_pure0 (h2) ?_
  simp only [go_sem, ↓reduceIte, Nat.reduceEqDiff, Nat.reduceLT, he]
  refine ⟨by kernel_rfl, ?_⟩
  exact Fin.ren [0] (by simp) (by simp) (by rfl) (by decide) (by simp [-List.map_map, -List.map_set]) (by simp [-List.map_map, -List.map_set])
theorem rpsealN_ok (sd rc : List (BitVec 8)) (s bo se : Int) (fs : Bool) (hs : s = 1 ∨ s = 2) (t : List (BitVec 8)) (now : Int) (hb : 0 ≤ bo) (hb2 : bo ≤ 1099511627776) (hse : 0 ≤ se) (hse2 : se ≤ 100000) (ho : overB bo se now = false) (he : (boxS s sd (BitVec.ofInt 64 se) t).2 = 0) : Spec0 Tryz.prog 8 [.ptr 0 0, .str t, .i64 now] [some ⟨false, [.i64 s, .i64 bo, .i64 se, .str sd, .str rc, .bool fs, .nilSlice]⟩] (.tup [.i64 se, .str (boxS s sd (BitVec.ofInt 64 se) t).1, .i64 0]) [some ⟨false, [.i64 s, .i64 bo, .i64 (se + 1), .str sd, .str rc, .bool fs, .nilSlice]⟩] := by
  have h1 := rpoverN sd rc s bo se fs now hb hb2
  rw [ho] at h1
  have h2 := rbox_seal s hs sd (BitVec.ofInt 64 se) t
  generalize boxS s sd (BitVec.ofInt 64 se) t = g at *
  have e1 : w64 (se + 1) = se + 1 := w64_of (by omega) (by omega)
  have e2 : w64 (se + 1 - 1) = se := by rw [w64_of (by omega) (by omega)]; omega
  refine spec0_of_vc (by kernel_rfl) (fn := Tryz.f8) Tryz.func8 rfl (by show 3 ≤ 49; decide) (go_start ?_)
  simp only [go_sem, ↓reduceIte, Nat.reduceEqDiff, Nat.reduceLT, Nat.reduceAdd, reduceCtorEq, Tryz.ntmps8]
  refine goCall_mem [0] (h1) (by kernel_rfl) (by simp [-List.map_map, -List.map_set]) rfl (by simp [-List.map_map, -List.map_set]) (by decide) (by simp [-List.map_map, -List.map_set]) (by simp [-List.map_map, -List.map_set]) (by simp [-List.map_map, -List.map_set]) (by simp [-List.map_map, -List.map_set]) (by simp) ?_
  simp only [go_sem, ↓reduceIte, Nat.reduceEqDiff, Nat.reduceLT, Nat.reduceAdd, Nat.reduceSub, reduceCtorEq]
  refine goCallD_pure0 (h2) ?_
  simp only [go_sem, ↓reduceIte, Nat.reduceEqDiff, Nat.reduceLT, Nat.reduceLeDiff, Nat.reduceAdd, reduceCtorEq, he, e1, e2]
  refine ⟨by kernel_rfl, ?_⟩
  exact Fin.ren [0] (by simp) (by simp) (by rfl) (by decide) (by simp [-List.map_map, -List.map_set]) (by simp [-List.map_map, -List.map_set])
theorem rpopenN_old (sd rc : List (BitVec 8)) (s bo se : Int) (fs : Bool) (n : Int) (t : List (BitVec 8)) (now : Int) (hb : 0 ≤ bo) (hb2 : bo ≤ 1099511627776) (ho : bo + 180 ≤ now) : Spec0 Tryz.prog 10 [.ptr 0 0, .i64 n, .str t, .i64 now] [some ⟨false, [.i64 s, .i64 bo, .i64 se, .str sd, .str rc, .bool fs, .nilSlice]⟩] (.tup [.str [], .i64 11]) [some ⟨false, [.i64 s, .i64 bo, .i64 se, .str sd, .str rc, .bool fs, .nilSlice]⟩] := by
  have e : w64 (bo + 180) = bo + 180 := w64_of (by omega) (by omega)
  refine spec0_of_vc (by kernel_rfl) (fn := Tryz.f10) Tryz.func10 rfl (by show 4 ≤ 53; decide) (go_start ?_)
  simp only [go_sem, ↓reduceIte, Nat.reduceEqDiff, Nat.reduceLT, Nat.reduceAdd, reduceCtorEq, Tryz.ntmps10, Tryz.results10, e, ho]
  exact Fin.ren [0] (by simp) (by simp) (by rfl) (by decide) (by simp [-List.map_map, -List.map_set]) (by simp [-List.map_map, -List.map_set])
theorem rpopenN_chk (sd rc : List (BitVec 8)) (s bo se : Int) (fs : Bool) (n : Int) (t : List (BitVec 8)) (now : Int) (hb : 0 ≤ bo) (hb2 : bo ≤ 1099511627776) (ho : ¬ bo + 180 ≤ now) (hc : rchk [] n ≠ 0) : Spec0 Tryz.prog 10 [.ptr 0 0, .i64 n, .str t, .i64 now] [some ⟨false, [.i64 s, .i64 bo, .i64 se, .str sd, .str rc, .bool fs, .nilSlice]⟩] (.tup [.str [], .i64 (rchk [] n)]) [some ⟨false, [.i64 s, .i64 bo, .i64 se, .str sd, .str rc, .bool fs, .nilSlice]⟩] := by
  have e : w64 (bo + 180) = bo + 180 := w64_of (by omega) (by omega)
  refine spec0_of_vc (by kernel_rfl) (fn := Tryz.f10) Tryz.func10 rfl (by show 4 ≤ 53; decide) (go_start ?_)
  simp only [go_sem, ↓reduceIte, Nat.reduceEqDiff, Nat.reduceLT, Nat.reduceAdd, reduceCtorEq, Tryz.ntmps10, e, ho]
  refine goCall_mem [0] (prCheck_nil s bo se sd rc fs n) (by kernel_rfl) (by simp [-List.map_map, -List.map_set]) rfl (by simp [-List.map_map, -List.map_set]) (by decide) (by simp [-List.map_map, -List.map_set]) (by simp [-List.map_map, -List.map_set]) (by simp [-List.map_map, -List.map_set]) (by simp [-List.map_map, -List.map_set]) (by simp) ?_
  simp only [go_sem, ↓reduceIte, Nat.reduceEqDiff, Nat.reduceLT, Nat.reduceSub, hc]
  exact Fin.ren [0] (by simp) (by simp) (by rfl) (by decide) (by simp [-List.map_map, -List.map_set]) (by simp [-List.map_map, -List.map_set])
theorem rpopenN_err (sd rc : List (BitVec 8)) (s bo se : Int) (fs : Bool) (hs : s = 1 ∨ s = 2) (n : Int) (t : List (BitVec 8)) (now : Int) (hb : 0 ≤ bo) (hb2 : bo ≤ 1099511627776) (ho : ¬ bo + 180 ≤ now) (hc : rchk [] n = 0) (he : (boxO s rc (BitVec.ofInt 64 n) t).2 ≠ 0) : Spec0 Tryz.prog 10 [.ptr 0 0, .i64 n, .str t, .i64 now] [some ⟨false, [.i64 s, .i64 bo, .i64 se, .str sd, .str rc, .bool fs, .nilSlice]⟩] (.tup [.str [], .i64 (boxO s rc (BitVec.ofInt 64 n) t).2]) [some ⟨false, [.i64 s, .i64 bo, .i64 se, .str sd, .str rc, .bool fs, .nilSlice]⟩] := by
  have e : w64 (bo + 180) = bo + 180 := w64_of (by omega) (by omega)
  have h2 := rbox_open s hs rc (BitVec.ofInt 64 n) t
  rw [boxO_err s rc _ t he] at h2
  generalize (boxO s rc (BitVec.ofInt 64 n) t).2 = g at *
  refine spec0_of_vc (by kernel_rfl) (fn := Tryz.f10) Tryz.func10 rfl (by show 4 ≤ 53; decide) (go_start ?_)
  simp only [go_sem, ↓reduceIte, Nat.reduceEqDiff, Nat.reduceLT, Nat.reduceAdd, reduceCtorEq, Tryz.ntmps10, e, ho]
  refine goCall_mem [0] (prCheck_nil s bo se sd rc fs n) (by kernel_rfl) (by simp [-List.map_map, -List.map_set]) rfl (by simp [-List.map_map, -List.map_set]) (by decide) (by simp [-List.map_map, -List.map_set]) (by simp [-List.map_map, -List.map_set]) (by simp [-List.map_map, -List.map_set]) (by simp [-List.map_map, -List.map_set]) (by simp) ?_
  simp only [go_sem, ↓reduceIte, Nat.reduceEqDiff, Nat.reduceLT, Nat.reduceAdd, Nat.reduceSub, reduceCtorEq, hc]
  refine goCallD_pure0 (h2) ?_
  simp only [go_sem, ↓reduceIte, Nat.reduceEqDiff, Nat.reduceLT, he]
  refine ⟨by kernel_rfl, ?_⟩
  exact Fin.ren [0] (by simp) (by simp) (by rfl) (by decide) (by simp [-List.map_map, -List.map_set]) (by simp [-List.map_map, -List.map_set])
theorem rpopenN_ok (sd rc : List (BitVec 8)) (s bo se : Int) (fs : Bool) (hs : s = 1 ∨ s = 2) (n : Int) (t : List (BitVec 8)) (now : Int) (hb : 0 ≤ bo) (hb2 : bo ≤ 1099511627776) (ho : ¬ bo + 180 ≤ now) (hc : rchk [] n = 0) (he : (boxO s rc (BitVec.ofInt 64 n) t).2 = 0) : Spec0 Tryz.prog 10 [.ptr 0 0, .i64 n, .str t, .i64 now] [some ⟨false, [.i64 s, .i64 bo, .i64 se, .str sd, .str rc, .bool fs, .nilSlice]⟩] (.tup [.str (boxO s rc (BitVec.ofInt 64 n) t).1, .i64 0]) [some ⟨false, [.i64 s, .i64 bo, .i64 se, .str sd, .str rc, .bool fs, .slice 1 0 1 1]⟩, some ⟨false, [.i64 n]⟩] := by
  have e : w64 (bo + 180) = bo + 180 := w64_of (by omega) (by omega)
  have h2 := rbox_open s hs rc (BitVec.ofInt 64 n) t
  generalize boxO s rc (BitVec.ofInt 64 n) t = g at *
  refine spec0_of_vc (by kernel_rfl) (fn := Tryz.f10) Tryz.func10 rfl (by show 4 ≤ 53; decide) (go_start ?_)
  simp only [go_sem, ↓reduceIte, Nat.reduceEqDiff, Nat.reduceLT, Nat.reduceAdd, reduceCtorEq, Tryz.ntmps10, e, ho]
  refine goCall_mem [0] (prCheck_nil s bo se sd rc fs n) (by kernel_rfl) (by simp [-List.map_map, -List.map_set]) rfl (by simp [-List.map_map, -List.map_set]) (by decide) (by simp [-List.map_map, -List.map_set]) (by simp [-List.map_map, -List.map_set]) (by simp [-List.map_map, -List.map_set]) (by simp [-List.map_map, -List.map_set]) (by simp) ?_
  simp only [go_sem, ↓reduceIte, Nat.reduceEqDiff, Nat.reduceLT, Nat.reduceAdd, Nat.reduceSub, reduceCtorEq, hc]
  refine goCallD_pure0 (h2) ?_
  simp only [go_sem, ↓reduceIte, Nat.reduceEqDiff, Nat.reduceLT, reduceCtorEq, he]
  refine ⟨by kernel_rfl, ?_⟩
  refine goCall_mem [0] (prTake_nil_yes s bo se sd rc fs n hc) (by kernel_rfl) (by simp [-List.map_map, -List.map_set]) rfl (by simp [-List.map_map, -List.map_set]) (by decide) (by simp [-List.map_map, -List.map_set]) (by simp [-List.map_map, -List.map_set]) (by simp [-List.map_map, -List.map_set]) (by simp [-List.map_map, -List.map_set]) (by simp) ?_
  simp only [go_sem, ↓reduceIte, Nat.reduceEqDiff, Nat.reduceLT, Nat.reduceAdd, Nat.reduceSub]
  exact Fin.ren [0, 1] (by simp) (by simp) (by rfl) (by decide) (by simp [-List.map_map, -List.map_set]) (by simp [-List.map_map, -List.map_set])
theorem rpoverS (sd rc : List (BitVec 8)) (s bo se : Int) (fs : Bool) (l : List Int) (hll : l.length ≤ 17592186043904) (hlb : ∀ x ∈ l, x ≤ 1099511627776) (now : Int) (hb : 0 ≤ bo) (hb2 : bo ≤ 1099511627776) : Spec0 Tryz.prog 14 [.ptr 0 0, .i64 now] [some ⟨false, [.i64 s, .i64 bo, .i64 se, .str sd, .str rc, .bool fs, .slice 1 0 l.length 1]⟩, some ⟨false, l.map .i64⟩] (.bool (overB bo se now)) [some ⟨false, [.i64 s, .i64 bo, .i64 se, .str sd, .str rc, .bool fs, .slice 1 0 l.length 1]⟩, some ⟨false, l.map .i64⟩] := by
  have e : w64 (bo + 180) = bo + 180 := w64_of (by omega) (by omega)
  unfold overB
  by_cases h : bo + 180 ≤ now
  · have h' := eq_true h
    refine spec0_of_vc (by kernel_rfl) (fn := Tryz.f14) Tryz.func14 rfl (by show 2 ≤ 19; decide) (go_start ?_)
    simp only [go_sem, ↓reduceIte, Nat.reduceEqDiff, Nat.reduceLT, Nat.reduceAdd, reduceCtorEq, Tryz.ntmps14, Tryz.results14, e, h']
    exact Fin.ren [0, 1] (by simp) (by simp) (by rfl) (by decide) (by simp [-List.map_map, -List.map_set]) (by simp [-List.map_map, -List.map_set])
  · have h' := eq_false h
    refine spec0_of_vc (by kernel_rfl) (fn := Tryz.f14) Tryz.func14 rfl (by show 2 ≤ 19; decide) (go_start ?_)
    simp only [go_sem, ↓reduceIte, Nat.reduceEqDiff, Nat.reduceLT, Nat.reduceAdd, reduceCtorEq, Tryz.ntmps14, Tryz.results14, e, h']
    exact Fin.ren [0, 1] (by simp) (by simp) (by rfl) (by decide) (by simp [-List.map_map, -List.map_set]) (by simp [-List.map_map, -List.map_set])
theorem rpstaleS (sd rc : List (BitVec 8)) (s bo se : Int) (fs : Bool) (l : List Int) (hll : l.length ≤ 17592186043904) (hlb : ∀ x ∈ l, x ≤ 1099511627776) (now : Int) (hb : 0 ≤ bo) (hb2 : bo ≤ 1099511627776) : Spec0 Tryz.prog 12 [.ptr 0 0, .i64 now] [some ⟨false, [.i64 s, .i64 bo, .i64 se, .str sd, .str rc, .bool fs, .slice 1 0 l.length 1]⟩, some ⟨false, l.map .i64⟩] (.bool (staleB bo se fs now)) [some ⟨false, [.i64 s, .i64 bo, .i64 se, .str sd, .str rc, .bool fs, .slice 1 0 l.length 1]⟩, some ⟨false, l.map .i64⟩] := by
  have e : w64 (bo + 120) = bo + 120 := w64_of (by omega) (by omega)
  have ho := rpoverS sd rc s bo se fs l hll hlb now hb hb2
  unfold staleB
  generalize overB bo se now = o at *
  cases o
  · cases fs
    · refine spec0_of_vc (by kernel_rfl) (fn := Tryz.f12) Tryz.func12 rfl (by show 2 ≤ 23; decide) (go_start ?_)
      simp only [go_sem, ↓reduceIte, Nat.reduceEqDiff, Nat.reduceLT, Nat.reduceAdd, reduceCtorEq, Tryz.ntmps12]
      refine goCall_mem [0, 1] (ho) (by kernel_rfl) (by simp [-List.map_map, -List.map_set]) rfl (by simp [-List.map_map, -List.map_set]) (by decide) (by simp [-List.map_map, -List.map_set]) (by simp [-List.map_map, -List.map_set]) (by simp [-List.map_map, -List.map_set]) (by simp [-List.map_map, -List.map_set]) (by simp) ?_
      simp only [go_sem, ↓reduceIte, Nat.reduceEqDiff, Nat.reduceLT, Nat.reduceAdd, Nat.reduceSub, reduceCtorEq]
      exact Fin.ren [0, 1] (by simp) (by simp) (by rfl) (by decide) (by simp [-List.map_map, -List.map_set]) (by simp [-List.map_map, -List.map_set])
    · refine spec0_of_vc (by kernel_rfl) (fn := Tryz.f12) Tryz.func12 rfl (by show 2 ≤ 23; decide) (go_start ?_)
      simp only [go_sem, ↓reduceIte, Nat.reduceEqDiff, Nat.reduceLT, Nat.reduceAdd, reduceCtorEq, Tryz.ntmps12]
      refine goCall_mem [0, 1] (ho) (by kernel_rfl) (by simp [-List.map_map, -List.map_set]) rfl (by simp [-List.map_map, -List.map_set]) (by decide) (by simp [-List.map_map, -List.map_set]) (by simp [-List.map_map, -List.map_set]) (by simp [-List.map_map, -List.map_set]) (by simp [-List.map_map, -List.map_set]) (by simp) ?_
      simp only [go_sem, ↓reduceIte, Nat.reduceEqDiff, Nat.reduceLT, Nat.reduceAdd, Nat.reduceSub, reduceCtorEq, e]
      exact Fin.ren [0, 1] (by simp) (by simp) (by rfl) (by decide) (by simp [-List.map_map, -List.map_set]) (by simp [-List.map_map, -List.map_set])
  · refine spec0_of_vc (by kernel_rfl) (fn := Tryz.f12) Tryz.func12 rfl (by show 2 ≤ 23; decide) (go_start ?_)
    simp only [go_sem, ↓reduceIte, Nat.reduceEqDiff, Nat.reduceLT, Nat.reduceAdd, reduceCtorEq, Tryz.ntmps12]
    refine goCall_mem [0, 1] (ho) (by kernel_rfl) (by simp [-List.map_map, -List.map_set]) rfl (by simp [-List.map_map, -List.map_set]) (by decide) (by simp [-List.map_map, -List.map_set]) (by simp [-List.map_map, -List.map_set]) (by simp [-List.map_map, -List.map_set]) (by simp [-List.map_map, -List.map_set]) (by simp) ?_
    simp only [go_sem, ↓reduceIte, Nat.reduceEqDiff, Nat.reduceLT, Nat.reduceAdd, Nat.reduceSub, reduceCtorEq]
    exact Fin.ren [0, 1] (by simp) (by simp) (by rfl) (by decide) (by simp [-List.map_map, -List.map_set]) (by simp [-List.map_map, -List.map_set])
theorem rpsealS_old (sd rc : List (BitVec 8)) (s bo se : Int) (fs : Bool) (l : List Int) (hll : l.length ≤ 17592186043904) (hlb : ∀ x ∈ l, x ≤ 1099511627776) (t : List (BitVec 8)) (now : Int) (hb : 0 ≤ bo) (hb2 : bo ≤ 1099511627776) (ho : overB bo se now = true) : Spec0 Tryz.prog 8 [.ptr 0 0, .str t, .i64 now] [some ⟨false, [.i64 s, .i64 bo, .i64 se, .str sd, .str rc, .bool fs, .slice 1 0 l.length 1]⟩, some ⟨false, l.map .i64⟩] (.tup [.i64 0, .str [], .i64 11]) [some ⟨false, [.i64 s, .i64 bo, .i64 se, .str sd, .str rc, .bool fs, .slice 1 0 l.length 1]⟩, some ⟨false, l.map .i64⟩] := by
  have h1 := rpoverS sd rc s bo se fs l hll hlb now hb hb2
  rw [ho] at h1
  refine spec0_of_vc (by kernel_rfl) (fn := Tryz.f8) Tryz.func8 rfl (by show 3 ≤ 49; decide) (go_start ?_)
  simp only [go_sem, ↓reduceIte, Nat.reduceEqDiff, Nat.reduceLT, Nat.reduceAdd, reduceCtorEq, Tryz.ntmps8]
  refine goCall_mem [0, 1] (h1) (by kernel_rfl) (by simp [-List.map_map, -List.map_set]) rfl (by simp [-List.map_map, -List.map_set]) (by decide) (by simp [-List.map_map, -List.map_set]) (by simp [-List.map_map, -List.map_set]) (by simp [-List.map_map, -List.map_set]) (by simp [-List.map_map, -List.map_set]) (by simp) ?_
  simp only [go_sem, ↓reduceIte, Nat.reduceEqDiff, Nat.reduceLT, Nat.reduceAdd, Nat.reduceSub]
  exact Fin.ren [0, 1] (by simp) (by simp) (by rfl) (by decide) (by simp [-List.map_map, -List.map_set]) (by simp [-List.map_map, -List.map_set])
theorem rpsealS_err (sd rc : List (BitVec 8)) (s bo se : Int) (fs : Bool) (l : List Int) (hll : l.length ≤ 17592186043904) (hlb : ∀ x ∈ l, x ≤ 1099511627776) (hs : s = 1 ∨ s = 2) (t : List (BitVec 8)) (now : Int) (hb : 0 ≤ bo) (hb2 : bo ≤ 1099511627776) (ho : overB bo se now = false) (he : (boxS s sd (BitVec.ofInt 64 se) t).2 ≠ 0) : Spec0 Tryz.prog 8 [.ptr 0 0, .str t, .i64 now] [some ⟨false, [.i64 s, .i64 bo, .i64 se, .str sd, .str rc, .bool fs, .slice 1 0 l.length 1]⟩, some ⟨false, l.map .i64⟩] (.tup [.i64 0, .str [], .i64 (boxS s sd (BitVec.ofInt 64 se) t).2]) [some ⟨false, [.i64 s, .i64 bo, .i64 se, .str sd, .str rc, .bool fs, .slice 1 0 l.length 1]⟩, some ⟨false, l.map .i64⟩] := by
  have h1 := rpoverS sd rc s bo se fs l hll hlb now hb hb2
  rw [ho] at h1
  have h2 := rbox_seal s hs sd (BitVec.ofInt 64 se) t
  generalize boxS s sd (BitVec.ofInt 64 se) t = g at *
  refine spec0_of_vc (by kernel_rfl) (fn := Tryz.f8) Tryz.func8 rfl (by show 3 ≤ 49; decide) (go_start ?_)
  simp only [go_sem, ↓reduceIte, Nat.reduceEqDiff, Nat.reduceLT, Nat.reduceAdd, reduceCtorEq, Tryz.ntmps8]
  refine goCall_mem [0, 1] (h1) (by kernel_rfl) (by simp [-List.map_map, -List.map_set]) rfl (by simp [-List.map_map, -List.map_set]) (by decide) (by simp [-List.map_map, -List.map_set]) (by simp [-List.map_map, -List.map_set]) (by simp [-List.map_map, -List.map_set]) (by simp [-List.map_map, -List.map_set]) (by simp) ?_
  simp only [go_sem, ↓reduceIte, Nat.reduceEqDiff, Nat.reduceLT, Nat.reduceAdd, Nat.reduceSub, reduceCtorEq]
  refine goCallD_pure0 (h2) ?_
  simp only [go_sem, ↓reduceIte, Nat.reduceEqDiff, Nat.reduceLT, Nat.reduceAdd, he]
  refine ⟨by kernel_rfl, ?_⟩
  exact Fin.ren [0, 1] (by simp) (by simp) (by rfl) (by decide) (by simp [-List.map_map, -List.map_set]) (by simp [-List.map_map, -List.map_set])
theorem rpsealS_ok (sd rc : List (BitVec 8)) (s bo se : Int) (fs : Bool) (l : List Int) (hll : l.length ≤ 17592186043904) (hlb : ∀ x ∈ l, x ≤ 1099511627776) (hs : s = 1 ∨ s = 2) (t : List (BitVec 8)) (now : Int) (hb : 0 ≤ bo) (hb2 : bo ≤ 1099511627776) (hse : 0 ≤ se) (hse2 : se ≤ 100000) (ho : overB bo se now = false) (he : (boxS s sd (BitVec.ofInt 64 se) t).2 = 0) : Spec0 Tryz.prog 8 [.ptr 0 0, .str t, .i64 now] [some ⟨false, [.i64 s, .i64 bo, .i64 se, .str sd, .str rc, .bool fs, .slice 1 0 l.length 1]⟩, some ⟨false, l.map .i64⟩] (.tup [.i64 se, .str (boxS s sd (BitVec.ofInt 64 se) t).1, .i64 0]) [some ⟨false, [.i64 s, .i64 bo, .i64 (se + 1), .str sd, .str rc, .bool fs, .slice 1 0 l.length 1]⟩, some ⟨false, l.map .i64⟩] := by
  have h1 := rpoverS sd rc s bo se fs l hll hlb now hb hb2
  rw [ho] at h1
  have h2 := rbox_seal s hs sd (BitVec.ofInt 64 se) t
  generalize boxS s sd (BitVec.ofInt 64 se) t = g at *
  have e1 : w64 (se + 1) = se + 1 := w64_of (by omega) (by omega)
  have e2 : w64 (se + 1 - 1) = se := by rw [w64_of (by omega) (by omega)]; omega
  refine spec0_of_vc (by kernel_rfl) (fn := Tryz.f8) Tryz.func8 rfl (by show 3 ≤ 49; decide) (go_start ?_)
  simp only [go_sem, ↓reduceIte, Nat.reduceEqDiff, Nat.reduceLT, Nat.reduceAdd, reduceCtorEq, Tryz.ntmps8]
  refine goCall_mem [0, 1] (h1) (by kernel_rfl) (by simp [-List.map_map, -List.map_set]) rfl (by simp [-List.map_map, -List.map_set]) (by decide) (by simp [-List.map_map, -List.map_set]) (by simp [-List.map_map, -List.map_set]) (by simp [-List.map_map, -List.map_set]) (by simp [-List.map_map, -List.map_set]) (by simp) ?_
  simp only [go_sem, ↓reduceIte, Nat.reduceEqDiff, Nat.reduceLT, Nat.reduceAdd, Nat.reduceSub, reduceCtorEq]
  refine goCallD_pure0 (h2) ?_
  simp only [go_sem, ↓reduceIte, Nat.reduceEqDiff, Nat.reduceLT, Nat.reduceLeDiff, Nat.reduceAdd, reduceCtorEq, he, e1, e2]
  refine ⟨by kernel_rfl, ?_⟩
  exact Fin.ren [0, 1] (by simp) (by simp) (by rfl) (by decide) (by simp [-List.map_map, -List.map_set]) (by simp [-List.map_map, -List.map_set])
theorem rpopenS_old (sd rc : List (BitVec 8)) (s bo se : Int) (fs : Bool) (l : List Int) (hll : l.length ≤ 17592186043904) (hlb : ∀ x ∈ l, x ≤ 1099511627776) (n : Int) (t : List (BitVec 8)) (now : Int) (hb : 0 ≤ bo) (hb2 : bo ≤ 1099511627776) (ho : bo + 180 ≤ now) : Spec0 Tryz.prog 10 [.ptr 0 0, .i64 n, .str t, .i64 now] [some ⟨false, [.i64 s, .i64 bo, .i64 se, .str sd, .str rc, .bool fs, .slice 1 0 l.length 1]⟩, some ⟨false, l.map .i64⟩] (.tup [.str [], .i64 11]) [some ⟨false, [.i64 s, .i64 bo, .i64 se, .str sd, .str rc, .bool fs, .slice 1 0 l.length 1]⟩, some ⟨false, l.map .i64⟩] := by
  have e : w64 (bo + 180) = bo + 180 := w64_of (by omega) (by omega)
  refine spec0_of_vc (by kernel_rfl) (fn := Tryz.f10) Tryz.func10 rfl (by show 4 ≤ 53; decide) (go_start ?_)
  simp only [go_sem, ↓reduceIte, Nat.reduceEqDiff, Nat.reduceLT, Nat.reduceAdd, reduceCtorEq, Tryz.ntmps10, Tryz.results10, e, ho]
  exact Fin.ren [0, 1] (by simp) (by simp) (by rfl) (by decide) (by simp [-List.map_map, -List.map_set]) (by simp [-List.map_map, -List.map_set])
theorem rpopenS_chk (sd rc : List (BitVec 8)) (s bo se : Int) (fs : Bool) (l : List Int) (hll : l.length ≤ 17592186043904) (hlb : ∀ x ∈ l, x ≤ 1099511627776) (n : Int) (t : List (BitVec 8)) (now : Int) (hb : 0 ≤ bo) (hb2 : bo ≤ 1099511627776) (ho : ¬ bo + 180 ≤ now) (hc : rchk l n ≠ 0) : Spec0 Tryz.prog 10 [.ptr 0 0, .i64 n, .str t, .i64 now] [some ⟨false, [.i64 s, .i64 bo, .i64 se, .str sd, .str rc, .bool fs, .slice 1 0 l.length 1]⟩, some ⟨false, l.map .i64⟩] (.tup [.str [], .i64 (rchk l n)]) [some ⟨false, [.i64 s, .i64 bo, .i64 se, .str sd, .str rc, .bool fs, .slice 1 0 l.length 1]⟩, some ⟨false, l.map .i64⟩] := by
  have e : w64 (bo + 180) = bo + 180 := w64_of (by omega) (by omega)
  refine spec0_of_vc (by kernel_rfl) (fn := Tryz.f10) Tryz.func10 rfl (by show 4 ≤ 53; decide) (go_start ?_)
  simp only [go_sem, ↓reduceIte, Nat.reduceEqDiff, Nat.reduceLT, Nat.reduceAdd, reduceCtorEq, Tryz.ntmps10, e, ho]
  refine goCall_mem [0, 1] (prCheck_some s bo se sd rc fs l n (by omega) hlb) (by kernel_rfl) (by simp [-List.map_map, -List.map_set]) rfl (by simp [-List.map_map, -List.map_set]) (by decide) (by simp [-List.map_map, -List.map_set]) (by simp [-List.map_map, -List.map_set]) (by simp [-List.map_map, -List.map_set]) (by simp [-List.map_map, -List.map_set]) (by simp) ?_
  simp only [go_sem, ↓reduceIte, Nat.reduceEqDiff, Nat.reduceLT, Nat.reduceAdd, Nat.reduceSub, hc]
  exact Fin.ren [0, 1] (by simp) (by simp) (by rfl) (by decide) (by simp [-List.map_map, -List.map_set]) (by simp [-List.map_map, -List.map_set])
theorem rpopenS_err (sd rc : List (BitVec 8)) (s bo se : Int) (fs : Bool) (l : List Int) (hll : l.length ≤ 17592186043904) (hlb : ∀ x ∈ l, x ≤ 1099511627776) (hs : s = 1 ∨ s = 2) (n : Int) (t : List (BitVec 8)) (now : Int) (hb : 0 ≤ bo) (hb2 : bo ≤ 1099511627776) (ho : ¬ bo + 180 ≤ now) (hc : rchk l n = 0) (he : (boxO s rc (BitVec.ofInt 64 n) t).2 ≠ 0) : Spec0 Tryz.prog 10 [.ptr 0 0, .i64 n, .str t, .i64 now] [some ⟨false, [.i64 s, .i64 bo, .i64 se, .str sd, .str rc, .bool fs, .slice 1 0 l.length 1]⟩, some ⟨false, l.map .i64⟩] (.tup [.str [], .i64 (boxO s rc (BitVec.ofInt 64 n) t).2]) [some ⟨false, [.i64 s, .i64 bo, .i64 se, .str sd, .str rc, .bool fs, .slice 1 0 l.length 1]⟩, some ⟨false, l.map .i64⟩] := by
  have e : w64 (bo + 180) = bo + 180 := w64_of (by omega) (by omega)
  have h2 := rbox_open s hs rc (BitVec.ofInt 64 n) t
  rw [boxO_err s rc _ t he] at h2
  generalize (boxO s rc (BitVec.ofInt 64 n) t).2 = g at *
  refine spec0_of_vc (by kernel_rfl) (fn := Tryz.f10) Tryz.func10 rfl (by show 4 ≤ 53; decide) (go_start ?_)
  simp only [go_sem, ↓reduceIte, Nat.reduceEqDiff, Nat.reduceLT, Nat.reduceAdd, reduceCtorEq, Tryz.ntmps10, e, ho]
  refine goCall_mem [0, 1] (prCheck_some s bo se sd rc fs l n (by omega) hlb) (by kernel_rfl) (by simp [-List.map_map, -List.map_set]) rfl (by simp [-List.map_map, -List.map_set]) (by decide) (by simp [-List.map_map, -List.map_set]) (by simp [-List.map_map, -List.map_set]) (by simp [-List.map_map, -List.map_set]) (by simp [-List.map_map, -List.map_set]) (by simp) ?_
  simp only [go_sem, ↓reduceIte, Nat.reduceEqDiff, Nat.reduceLT, Nat.reduceAdd, Nat.reduceSub, reduceCtorEq, hc]
  refine goCallD_pure0 (h2) ?_
  simp only [go_sem, ↓reduceIte, Nat.reduceEqDiff, Nat.reduceLT, Nat.reduceAdd, he]
  refine ⟨by kernel_rfl, ?_⟩
  exact Fin.ren [0, 1] (by simp) (by simp) (by rfl) (by decide) (by simp [-List.map_map, -List.map_set]) (by simp [-List.map_map, -List.map_set])
theorem rpopenS_ok (sd rc : List (BitVec 8)) (s bo se : Int) (fs : Bool) (l : List Int) (hll : l.length ≤ 17592186043904) (hlb : ∀ x ∈ l, x ≤ 1099511627776) (hs : s = 1 ∨ s = 2) (n : Int) (t : List (BitVec 8)) (now : Int) (hb : 0 ≤ bo) (hb2 : bo ≤ 1099511627776) (ho : ¬ bo + 180 ≤ now) (hc : rchk l n = 0) (he : (boxO s rc (BitVec.ofInt 64 n) t).2 = 0) : Spec0 Tryz.prog 10 [.ptr 0 0, .i64 n, .str t, .i64 now] [some ⟨false, [.i64 s, .i64 bo, .i64 se, .str sd, .str rc, .bool fs, .slice 1 0 l.length 1]⟩, some ⟨false, l.map .i64⟩] (.tup [.str (boxO s rc (BitVec.ofInt 64 n) t).1, .i64 0]) [some ⟨false, [.i64 s, .i64 bo, .i64 se, .str sd, .str rc, .bool fs, .slice 2 0 (l ++ [n]).length 1]⟩, none, some ⟨false, (l ++ [n]).map .i64⟩] := by
  have e : w64 (bo + 180) = bo + 180 := w64_of (by omega) (by omega)
  have h2 := rbox_open s hs rc (BitVec.ofInt 64 n) t
  generalize boxO s rc (BitVec.ofInt 64 n) t = g at *
  refine spec0_of_vc (by kernel_rfl) (fn := Tryz.f10) Tryz.func10 rfl (by show 4 ≤ 53; decide) (go_start ?_)
  simp only [go_sem, ↓reduceIte, Nat.reduceEqDiff, Nat.reduceLT, Nat.reduceAdd, reduceCtorEq, Tryz.ntmps10, e, ho]
  refine goCall_mem [0, 1] (prCheck_some s bo se sd rc fs l n (by omega) hlb) (by kernel_rfl) (by simp [-List.map_map, -List.map_set]) rfl (by simp [-List.map_map, -List.map_set]) (by decide) (by simp [-List.map_map, -List.map_set]) (by simp [-List.map_map, -List.map_set]) (by simp [-List.map_map, -List.map_set]) (by simp [-List.map_map, -List.map_set]) (by simp) ?_
  simp only [go_sem, ↓reduceIte, Nat.reduceEqDiff, Nat.reduceLT, Nat.reduceAdd, Nat.reduceSub, reduceCtorEq, hc]
  refine goCallD_pure0 (h2) ?_
  simp only [go_sem, ↓reduceIte, Nat.reduceEqDiff, Nat.reduceLT, Nat.reduceAdd, reduceCtorEq, he]
  refine ⟨by kernel_rfl, ?_⟩
  refine goCall_mem [0, 1] (prTake_yes s bo se sd rc fs l n (by omega) hlb hc) (by kernel_rfl) (by simp [-List.map_map, -List.map_set]) rfl (by simp [-List.map_map, -List.map_set]) (by decide) (by simp [-List.map_map, -List.map_set]) (by simp [-List.map_map, -List.map_set]) (by simp [-List.map_map, -List.map_set]) (by simp [-List.map_map, -List.map_set]) (by simp) ?_
  simp only [go_sem, ↓reduceIte, Nat.reduceEqDiff, Nat.reduceLT, Nat.reduceAdd, Nat.reduceSub]
  exact Fin.ren [0, 1, 2] (by simp) (by simp) (by rfl) (by decide) (by simp [-List.map_map, -List.map_set]) (by simp [-List.map_map, -List.map_set])
end Go.Vm
end
section
namespace Go.Vm
open Go.Proofs
set_option maxRecDepth 20000
theorem over_false {bo se now : Int} (h : overB bo se now = false) : ¬ bo + 180 ≤ now ∧ se < 1000 := by
  unfold overB at h
  by_cases h1 : bo + 180 ≤ now
  · rw [if_pos h1] at h; cases h
  · rw [if_neg h1] at h
    have := of_decide_eq_false h
    exact ⟨h1, by omega⟩
theorem over_true (bo se : Int) : overB bo se (bo + 180) = true := by
  unfold overB; rw [if_pos (Int.le_refl _)]
theorem of2S_spec (k a b : Int) (n m : BitVec 32) (s : List (BitVec 8)) (ad : BitVec 32) (bt : Int) (hk : -9223372036854775808 ≤ k) (hk2 : k ≤ 9223372036854775807) : PureFn Tryz.prog 6 [.agg [.i64 k, .i64 a, .i64 b, .u32 n, .u32 m, .str s, .u32 ad, .i64 bt], .i64 2] (.i64 (k % 2)) := by
  have hr : PureFn Tryz.prog 18 [.i64 k, .i64 2] (.i64 (k % 2)) := by
    by_cases hp : 0 ≤ k
    · have e : k.tmod 2 = k % 2 := Int.tmod_eq_emod_of_nonneg hp
      have h0 : (k % 2 < 0) = False := eq_false (by omega)
      refine pure_of_vc (by kernel_rfl) (fn := Tryz.f18) (by kernel_rfl) Tryz.func18 rfl (by show 2 ≤ 15; decide) (by simp [lows, V.low]) (by simp [V.low]) (go_start ?_)
      simp only [go_sem, ↓reduceIte, Nat.reduceEqDiff, Nat.reduceLT, Int.reduceEq, reduceCtorEq, Tryz.ntmps18, Tryz.results18, e, h0]
    · have e1 : k.tmod 2 = -((-k) % 2) := by
        have h2 := Int.neg_tmod (-k) 2
        rw [Int.neg_neg] at h2
        rw [h2, Int.tmod_eq_emod_of_nonneg (by omega)]
      by_cases h0 : k.tmod 2 < 0
      · have e : w64 (k.tmod 2 + 2) = k % 2 := by rw [w64_of (by omega) (by omega)]; omega
        refine pure_of_vc (by kernel_rfl) (fn := Tryz.f18) (by kernel_rfl) Tryz.func18 rfl (by show 2 ≤ 15; decide) (by simp [lows, V.low]) (by simp [V.low]) (go_start ?_)
        simp only [go_sem, ↓reduceIte, Nat.reduceEqDiff, Nat.reduceLT, Int.reduceEq, reduceCtorEq, Tryz.ntmps18, Tryz.results18, h0, e]
      · have e : k.tmod 2 = k % 2 := by omega
        have h0' : (k % 2 < 0) = False := eq_false (by omega)
        refine pure_of_vc (by kernel_rfl) (fn := Tryz.f18) (by kernel_rfl) Tryz.func18 rfl (by show 2 ≤ 15; decide) (by simp [lows, V.low]) (by simp [V.low]) (go_start ?_)
        simp only [go_sem, ↓reduceIte, Nat.reduceEqDiff, Nat.reduceLT, Int.reduceEq, reduceCtorEq, Tryz.ntmps18, Tryz.results18, e, h0']
  refine pure_of_vc (by kernel_rfl) (fn := Tryz.f6) (by kernel_rfl) Tryz.func6 rfl (by show 2 ≤ 9; decide) (by simp [lows, V.low]) (by simp [V.low]) (go_start ?_)
  simp only [go_sem, ↓reduceIte, Nat.reduceEqDiff, Nat.reduceLT, Nat.reduceAdd, Tryz.ntmps6]
  refine goCall_pure0 (hr) ?_
  simp only [go_sem, ↓reduceIte, Nat.reduceLT]
end Go.Vm
end
