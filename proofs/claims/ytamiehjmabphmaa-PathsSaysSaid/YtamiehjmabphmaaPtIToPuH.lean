/- A part of the proof: laws of a small machine of values, or what one function answers, proved against the model; no conditions beyond those in each theorem. -/
import Derived.Test.YtamiehjmabphmaaHeadToPtH
import Derived.Test.YtamiehjmabphmaaPtYToVmH1
import Derived.Test.YtamiehjmabphmaaVmYToPtA
set_option linter.unusedVariables false
set_option linter.unusedSimpArgs false
set_option linter.unusedSectionVars false
section
-- NIDP
namespace Go.Vm
open Go.Proofs
set_option maxRecDepth 20000
def ltP (e x : Pe) : Bool := decide (x.1 < e.1 ∨ (x.1 = e.1 ∧ x.2.1 < e.2.1))
def insP (out : List Pe) (e : Pe) : List Pe := out.takeWhile (ltP e) ++ e :: out.dropWhile (ltP e)
def sortP (L : List Pe) : List Pe := L.foldl insP []
theorem insP_length (out : List Pe) (e : Pe) : (insP out e).length = out.length + 1 := by
  unfold insP
  have : out.length = (out.takeWhile (ltP e)).length + (out.dropWhile (ltP e)).length := by rw [← List.length_append, List.takeWhile_append_dropWhile]
  rw [List.length_append, List.length_cons]
  omega
theorem sortP_snoc (L : List Pe) (e : Pe) : sortP (L ++ [e]) = insP (sortP L) e := by unfold sortP; rw [List.foldl_append]; rfl
theorem sortP_length (L : List Pe) : (sortP L).length = L.length := by
  have : ∀ (l out : List Pe), (l.foldl insP out).length = out.length + l.length := by
    intro l
    induction l with
    | nil => intro out; rfl
    | cons e l ih => intro out; rw [List.foldl_cons, ih, insP_length, List.length_cons]; omega
  rw [sortP, this]; simp
/-- The place: all ahead are smaller, the one there isn't. -/
theorem insP_at {out : List Pe} {e : Pe} {k : Nat} (hk : k ≤ out.length) (h1 : ∀ x ∈ out.take k, ltP e x = true) (h2 : ∀ x, out[k]? = some x → ltP e x = false) : insP out e = out.take k ++ e :: out.drop k := by
  unfold insP
  have e1 : out = out.take k ++ out.drop k := (List.take_append_drop k out).symm
  have t1 : (out.take k ++ out.drop k).takeWhile (ltP e) = out.take k ++ (out.drop k).takeWhile (ltP e) := List.takeWhile_append_of_pos h1
  have t2 : (out.take k ++ out.drop k).dropWhile (ltP e) = (out.drop k).dropWhile (ltP e) := List.dropWhile_append_of_pos h1
  have t3 : (out.drop k).takeWhile (ltP e) = [] ∧ (out.drop k).dropWhile (ltP e) = out.drop k := by
    by_cases hkl : k < out.length
    · rw [List.drop_eq_getElem_cons hkl, List.takeWhile_cons, List.dropWhile_cons]
      have := h2 _ (List.getElem?_eq_getElem hkl)
      simp [this]
    · rw [List.drop_of_length_le (by omega)]; exact ⟨rfl, rfl⟩
  rw [← e1] at t1 t2
  rw [t1, t2, t3.1, t3.2, List.append_nil]
theorem pesC_one : ∀ (L : List Pe) (u : V), u ∈ pesC L → u.one = true
  | [], u, h => by cases h
  | e :: L, u, h => by
    rw [pesC_cons] at h
    rcases List.mem_append.1 h with h | h
    · unfold peC at h
      rcases List.mem_cons.1 h with rfl | h
      · rfl
      rcases List.mem_cons.1 h with rfl | h
      · rfl
      rw [List.mem_singleton.1 h]; rfl
    · exact pesC_one L u h
theorem snoc_all {q : List Pe} {e x : Pe} {k : Nat} (hx : q[k]? = some x) (h : ∀ y ∈ q.take k, ltP e y = true) (hl : ltP e x = true) : ∀ y ∈ q.take (k + 1), ltP e y = true := fun y hy => by
  rw [List.take_add_one, hx] at hy
  rcases List.mem_append.1 hy with hy | hy
  · exact h y hy
  · have hy : y = x := by simpa using hy
    rw [hy]; exact hl
theorem CopyN_spec : PureFn Try.prog 28 [.nilSlice] .nilSlice := by
  refine pure_of_vc (by kernel_rfl) (fn := Try.f28) (by kernel_rfl) Try.func28 rfl (by show 1 ≤ 5; decide) (by simp [lows, V.low]) (by simp [lows, V.low, lows_ite, low_ite]) (go_start ?_)
  simp -implicitDefEqProofs only [go_sem, ↓reduceIte, Nat.reduceEqDiff, Nat.reduceLT, Nat.reduceLeDiff, Nat.reduceAdd, Nat.reduceSub, Nat.reduceMul, Nat.reduceMod, Nat.reduceDiv, Int.reduceLE, Int.reduceLT, Int.reduceToNat, Int.reduceAdd, Int.reduceSub, Int.reduceMul, Int.reduceEq, Int.reduceNeg, BitVec.reduceOfInt, BitVec.reduceToNat, BitVec.reduceEq, BitVec.reduceNe, BitVec.reduceLT, reduceCtorEq, List.forall_mem_nil, Try.ntmps28, Try.results28]
theorem Copy0_spec (out : List Pe) (k : Nat) (hk : k = 0) : Spec0 Try.prog 28 [.slice 0 0 k 3] [some ⟨false, pesC out, none⟩] .nilSlice [some ⟨false, pesC out, none⟩] := by
  subst hk
  refine spec0_of_vc (by kernel_rfl) (fn := Try.f28) Try.func28 rfl (by show 1 ≤ 5; decide) (go_start ?_)
  simp -implicitDefEqProofs only [go_sem, ↓reduceIte, Nat.reduceEqDiff, Nat.reduceLT, Nat.reduceLeDiff, Nat.reduceAdd, Nat.reduceSub, Nat.reduceMul, Nat.reduceMod, Nat.reduceDiv, Int.reduceLE, Int.reduceLT, Int.reduceToNat, Int.reduceAdd, Int.reduceSub, Int.reduceMul, Int.reduceEq, Int.reduceNeg, BitVec.reduceOfInt, BitVec.reduceToNat, BitVec.reduceEq, BitVec.reduceNe, BitVec.reduceLT, reduceCtorEq, List.forall_mem_nil, Try.ntmps28, Try.results28]
  refine ⟨Nat.zero_le _, ?_⟩
  exact Fin.ren [0] (by simp) (by simp) (by rfl) (by decide) (by simp [-List.map_map, -List.map_set, pesC_rens, pesC_lows]) (by simp [-List.map_map, -List.map_set, pesC_rens, pesC_lows])
theorem Copy_spec (out : List Pe) (k : Nat) (hk : k ≤ out.length) (h0 : 0 < k) (hl : out.length ≤ 64) : Spec0 Try.prog 28 [.slice 0 0 k 3] [some ⟨false, pesC out, none⟩] (.slice 1 0 k 3) [some ⟨false, pesC out, none⟩, some ⟨false, pesC (out.take k), none⟩] := by
  have hk0 : (k = 0) = False := eq_false (by omega)
  refine spec0_of_vc (by kernel_rfl) (fn := Try.f28) Try.func28 rfl (by show 1 ≤ 5; decide) (go_start ?_)
  simp -implicitDefEqProofs only [go_sem, ↓reduceIte, Nat.reduceEqDiff, Nat.reduceLT, Nat.reduceLeDiff, Nat.reduceAdd, Nat.reduceSub, Nat.reduceMul, Nat.reduceMod, Nat.reduceDiv, Int.reduceLE, Int.reduceLT, Int.reduceToNat, Int.reduceAdd, Int.reduceSub, Int.reduceMul, Int.reduceEq, Int.reduceNeg, BitVec.reduceOfInt, BitVec.reduceToNat, BitVec.reduceEq, BitVec.reduceNe, BitVec.reduceLT, reduceCtorEq, List.forall_mem_nil, Try.ntmps28, Try.results28, hk0]
  have hl3 := pesC_length out
  refine ⟨⟨by omega, by omega, by omega, fun u hu => pesC_one out u (List.mem_of_mem_take hu), by omega⟩, ?_⟩
  rw [pesC_take]
  exact Fin.ren [0, 1] (by simp) (by simp) (by rfl) (by decide) (by simp [-List.map_map, -List.map_set, pesC_rens, pesC_lows]) (by simp [-List.map_map, -List.map_set, pesC_rens, pesC_lows])
theorem RAllN_spec : Spec0 Try.prog 20 [.ptr 0 0] [some ⟨false, [.nilSlice], none⟩] .nilSlice [some ⟨false, [.nilSlice], none⟩] := by
  refine spec0_of_vc (by kernel_rfl) (fn := Try.f20) Try.func20 rfl (by show 1 ≤ 71; decide) (go_start ?_)
  simp -implicitDefEqProofs only [go_sem, ↓reduceIte, Nat.reduceEqDiff, Nat.reduceLT, Nat.reduceLeDiff, Nat.reduceAdd, Nat.reduceSub, Nat.reduceMul, Nat.reduceMod, Nat.reduceDiv, Int.reduceLE, Int.reduceLT, Int.reduceToNat, Int.reduceAdd, Int.reduceSub, Int.reduceMul, Int.reduceEq, Int.reduceNeg, BitVec.reduceOfInt, BitVec.reduceToNat, BitVec.reduceEq, BitVec.reduceNe, BitVec.reduceLT, reduceCtorEq, List.forall_mem_nil, Try.ntmps20, Try.results20]
  refine go_unroll 1 ?_
  simp -implicitDefEqProofs only [go_sem, ↓reduceIte, Nat.reduceEqDiff, Nat.reduceLT, Nat.reduceLeDiff, Nat.reduceAdd, Nat.reduceSub, Nat.reduceMul, Nat.reduceMod, Nat.reduceDiv, Int.reduceLE, Int.reduceLT, Int.reduceToNat, Int.reduceAdd, Int.reduceSub, Int.reduceMul, Int.reduceEq, Int.reduceNeg, BitVec.reduceOfInt, BitVec.reduceToNat, BitVec.reduceEq, BitVec.reduceNe, BitVec.reduceLT, reduceCtorEq, List.forall_mem_nil]
  exact Fin.ren [0] (by simp) (by simp) (by rfl) (by decide) (by simp [-List.map_map, -List.map_set]) (by simp [-List.map_map, -List.map_set])
def raN (L : List Pe) (i : Nat) : St := ⟨[(3, .nilSlice), (10, .slice 1 0 L.length 3), (11, .i64 L.length), (12, .i64 i)], [some ⟨false, [.slice 1 0 L.length 3], none⟩, some ⟨false, pesC L, none⟩]⟩
def raS (L q : List Pe) (i : Nat) : St := ⟨[(3, .slice 2 0 q.length 3), (10, .slice 1 0 L.length 3), (11, .i64 L.length), (12, .i64 i)], [some ⟨false, [.slice 1 0 L.length 3], none⟩, some ⟨false, pesC L, none⟩, some ⟨false, pesC q, none⟩]⟩
set_option maxHeartbeats 2000000 in
theorem RAll_spec (L : List Pe) (hL : L.length ≤ 64) (h0 : L ≠ []) : Spec0 Try.prog 20 [.ptr 0 0] [some ⟨false, [.slice 1 0 L.length 3], none⟩, some ⟨false, pesC L, none⟩] (.slice 2 0 L.length 3) [some ⟨false, [.slice 1 0 L.length 3], none⟩, some ⟨false, pesC L, none⟩, some ⟨false, pesC (sortP L), none⟩] := by
  refine spec0_of_vc (by kernel_rfl) (fn := Try.f20) Try.func20 rfl (by show 1 ≤ 71; decide) (go_start ?_)
  simp -implicitDefEqProofs only [go_sem, ↓reduceIte, Nat.reduceEqDiff, Nat.reduceLT, Nat.reduceLeDiff, Nat.reduceAdd, Nat.reduceSub, Nat.reduceMul, Nat.reduceMod, Nat.reduceDiv, Int.reduceLE, Int.reduceLT, Int.reduceToNat, Int.reduceAdd, Int.reduceSub, Int.reduceMul, Int.reduceEq, Int.reduceNeg, BitVec.reduceOfInt, BitVec.reduceToNat, BitVec.reduceEq, BitVec.reduceNe, BitVec.reduceLT, reduceCtorEq, List.forall_mem_nil, Try.ntmps20, Try.results20]
  refine go_loop (fun j st => ∃ i : Nat, i + j = L.length ∧ ((i = 0 ∧ st = raN L 0) ∨ (0 < i ∧ st = raS L (sortP (L.take i)) i))) ?_ ?_
  · exact start_mk L.length (raN L 0) (by simp [St.get, lookS, raN]) rfl (fun _ _ h => h) ⟨0, by omega, .inl ⟨rfl, rfl⟩⟩
  rintro j st ⟨i, hij, hst⟩ _
  have hpos : 0 < L.length := List.length_pos_iff.2 h0
  by_cases hi : i < L.length
  · have hi' : (i : Int) < (L.length : Int) := by omega
    have hw1 : w64 ((i : Int) + 1) = ((i + 1 : Nat) : Int) := by rw [w64_of (by omega) (by omega)]; omega
    obtain ⟨e, he⟩ : ∃ e, L[i]? = some e := ⟨L[i], List.getElem?_eq_getElem hi⟩
    have hrow := pesC_row he
    unfold peC at hrow
    have hmin : min 3 ((pesC L).length - i * 3) = 3 := by rw [pesC_length]; omega
    have hle : i * 3 + 3 ≤ (pesC L).length := by rw [pesC_length]; omega
    have htake : L.take (i + 1) = L.take i ++ [e] := by rw [List.take_add_one, he]; rfl
    have hks := sortP_snoc (L.take i) e
    rw [← htake] at hks
    rcases hst with ⟨rfl, rfl⟩ | ⟨hi0, rfl⟩
    · unfold raN
      have hz : (0 : Int) < (L.length : Int) := by omega
      rw [Nat.zero_mul, List.drop_zero] at hrow
      rw [Nat.zero_mul, Nat.sub_zero] at hmin
      simp -implicitDefEqProofs only [go_sem, ↓reduceIte, Nat.reduceEqDiff, Nat.reduceLT, Nat.reduceLeDiff, Nat.reduceAdd, Nat.reduceSub, Nat.reduceMul, Nat.reduceMod, Nat.reduceDiv, Int.reduceLE, Int.reduceLT, Int.reduceToNat, Int.reduceAdd, Int.reduceSub, Int.reduceMul, Int.reduceEq, Int.reduceNeg, BitVec.reduceOfInt, BitVec.reduceToNat, BitVec.reduceEq, BitVec.reduceNe, BitVec.reduceLT, reduceCtorEq, List.forall_mem_nil, hz, hrow, hmin]
      refine ⟨by rw [pesC_length]; omega, ?_⟩
      refine go_unroll 1 ?_
      simp -implicitDefEqProofs only [go_sem, ↓reduceIte, Nat.reduceEqDiff, Nat.reduceLT, Nat.reduceLeDiff, Nat.reduceAdd, Nat.reduceSub, Nat.reduceMul, Nat.reduceMod, Nat.reduceDiv, Int.reduceLE, Int.reduceLT, Int.reduceToNat, Int.reduceAdd, Int.reduceSub, Int.reduceMul, Int.reduceEq, Int.reduceNeg, BitVec.reduceOfInt, BitVec.reduceToNat, BitVec.reduceEq, BitVec.reduceNe, BitVec.reduceLT, reduceCtorEq, List.forall_mem_nil]
      refine ⟨by kernel_rfl, ?_⟩
      refine goCallD_pure0 (CopyN_spec) ?_
      simp -implicitDefEqProofs only [go_sem, ↓reduceIte, Nat.reduceEqDiff, Nat.reduceLT, Nat.reduceLeDiff, Nat.reduceAdd, Nat.reduceSub, Nat.reduceMul, Nat.reduceMod, Nat.reduceDiv, Int.reduceLE, Int.reduceLT, Int.reduceToNat, Int.reduceAdd, Int.reduceSub, Int.reduceMul, Int.reduceEq, Int.reduceNeg, BitVec.reduceOfInt, BitVec.reduceToNat, BitVec.reduceEq, BitVec.reduceNe, BitVec.reduceLT, reduceCtorEq, List.forall_mem_nil]
      refine ⟨by kernel_rfl, ?_⟩
      refine again_ren (j - 1) (raS L [e] 1) [0, 1, 4] (by omega) rfl (by simp) rfl (by decide) (by simp [slotsOk, St.get, lookS, raS]) (by simp [raS, pesC_rens, pesC_lows, pesC_cons, pesC_nil, peC]) ⟨1, by omega, .inr ⟨by omega, ?_⟩⟩
      rw [hks]
      rfl
    · have hql := sortP_length (L.take i)
      rw [List.length_take, Nat.min_eq_left (by omega)] at hql
      generalize hq : sortP (L.take i) = q at *
      unfold raS
      simp -implicitDefEqProofs only [go_sem, ↓reduceIte, Nat.reduceEqDiff, Nat.reduceLT, Nat.reduceLeDiff, Nat.reduceAdd, Nat.reduceSub, Nat.reduceMul, Nat.reduceMod, Nat.reduceDiv, Int.reduceLE, Int.reduceLT, Int.reduceToNat, Int.reduceAdd, Int.reduceSub, Int.reduceMul, Int.reduceEq, Int.reduceNeg, BitVec.reduceOfInt, BitVec.reduceToNat, BitVec.reduceEq, BitVec.reduceNe, BitVec.reduceLT, reduceCtorEq, List.forall_mem_nil, hi', hrow, hmin, hle]
      refine ⟨by omega, ?_⟩
      refine go_loop (fun j2 st => ∃ k : Nat, k + j2 = q.length ∧ (∀ x ∈ q.take k, ltP e x = true) ∧ st = ⟨[(3, .slice 2 0 q.length 3), (5, .ptr 3 0), (6, .i64 k), (10, .slice 1 0 L.length 3), (11, .i64 L.length), (12, .i64 i)], [some ⟨false, [.slice 1 0 L.length 3], none⟩, some ⟨false, pesC L, none⟩, some ⟨false, pesC q, none⟩, some ⟨false, peC e, none⟩]⟩) ?_ ?_
      · exact start_mk q.length ⟨[(3, .slice 2 0 q.length 3), (5, .ptr 3 0), (6, .i64 (0 : Nat)), (10, .slice 1 0 L.length 3), (11, .i64 L.length), (12, .i64 i)], [some ⟨false, [.slice 1 0 L.length 3], none⟩, some ⟨false, pesC L, none⟩, some ⟨false, pesC q, none⟩, some ⟨false, peC e, none⟩]⟩ (by simp [St.get, lookS]) rfl (fun _ _ h => h) ⟨0, by omega, by simp, rfl⟩
      rintro j2 st ⟨k, hkj, hlt, rfl⟩ _
      have hwk : w64 ((k : Int) + 1) = ((k + 1 : Nat) : Int) := by rw [w64_of (by omega) (by omega)]; omega
      by_cases hk : k < q.length
      · have hk' : (k : Int) < (q.length : Int) := by omega
        obtain ⟨x, hx⟩ : ∃ x, q[k]? = some x := ⟨q[k], List.getElem?_eq_getElem hk⟩
        have hg0 := pesC_get0 hx
        have hg1 := pesC_get1 hx
        by_cases h1 : x.1 < e.1
        · simp -implicitDefEqProofs only [go_sem, ↓reduceIte, Nat.reduceEqDiff, Nat.reduceLT, Nat.reduceLeDiff, Nat.reduceAdd, Nat.reduceSub, Nat.reduceMul, Nat.reduceMod, Nat.reduceDiv, Int.reduceLE, Int.reduceLT, Int.reduceToNat, Int.reduceAdd, Int.reduceSub, Int.reduceMul, Int.reduceEq, Int.reduceNeg, BitVec.reduceOfInt, BitVec.reduceToNat, BitVec.reduceEq, BitVec.reduceNe, BitVec.reduceLT, reduceCtorEq, List.forall_mem_nil, hk', hg0, h1, peC]
          refine ⟨by omega, by rw [pesC_length]; omega, by kernel_rfl, ?_⟩
          refine again_mk (j2 - 1) ⟨[(3, .slice 2 0 q.length 3), (5, .ptr 3 0), (6, .i64 (k + 1 : Nat)), (10, .slice 1 0 L.length 3), (11, .i64 L.length), (12, .i64 i)], [some ⟨false, [.slice 1 0 L.length 3], none⟩, some ⟨false, pesC L, none⟩, some ⟨false, pesC q, none⟩, some ⟨false, peC e, none⟩]⟩ (by omega) (by simp [St.get, lookS, hwk]) rfl (fun _ _ h => h) ⟨k + 1, by omega, snoc_all hx hlt (by simp [ltP, h1]), rfl⟩
        · by_cases h2 : x.1 = e.1
          · by_cases h3 : x.2.1 < e.2.1
            · have h3' : (x.2.1 : Int) < (e.2.1 : Int) := by omega
              simp -implicitDefEqProofs only [go_sem, ↓reduceIte, Nat.reduceEqDiff, Nat.reduceLT, Nat.reduceLeDiff, Nat.reduceAdd, Nat.reduceSub, Nat.reduceMul, Nat.reduceMod, Nat.reduceDiv, Int.reduceLE, Int.reduceLT, Int.reduceToNat, Int.reduceAdd, Int.reduceSub, Int.reduceMul, Int.reduceEq, Int.reduceNeg, BitVec.reduceOfInt, BitVec.reduceToNat, BitVec.reduceEq, BitVec.reduceNe, BitVec.reduceLT, reduceCtorEq, List.forall_mem_nil, hk', hg0, hg1, h1, h2, h3', peC, BitVec.lt_irrefl]
              refine ⟨by omega, by rw [pesC_length]; omega, by omega, by rw [pesC_length]; omega, by omega, by rw [pesC_length]; omega, by kernel_rfl, ?_⟩
              refine again_mk (j2 - 1) ⟨[(3, .slice 2 0 q.length 3), (5, .ptr 3 0), (6, .i64 (k + 1 : Nat)), (10, .slice 1 0 L.length 3), (11, .i64 L.length), (12, .i64 i)], [some ⟨false, [.slice 1 0 L.length 3], none⟩, some ⟨false, pesC L, none⟩, some ⟨false, pesC q, none⟩, some ⟨false, peC e, none⟩]⟩ (by omega) (by simp [St.get, lookS, hwk]) rfl (fun _ _ h => h) ⟨k + 1, by omega, snoc_all hx hlt (by simp [ltP, h2, h3]), rfl⟩
            · have h3' : ¬ (x.2.1 : Int) < (e.2.1 : Int) := by omega
              simp -implicitDefEqProofs only [go_sem, ↓reduceIte, Nat.reduceEqDiff, Nat.reduceLT, Nat.reduceLeDiff, Nat.reduceAdd, Nat.reduceSub, Nat.reduceMul, Nat.reduceMod, Nat.reduceDiv, Int.reduceLE, Int.reduceLT, Int.reduceToNat, Int.reduceAdd, Int.reduceSub, Int.reduceMul, Int.reduceEq, Int.reduceNeg, BitVec.reduceOfInt, BitVec.reduceToNat, BitVec.reduceEq, BitVec.reduceNe, BitVec.reduceLT, reduceCtorEq, List.forall_mem_nil, hk', hg0, hg1, h1, h2, h3', peC, BitVec.lt_irrefl]
              refine ⟨by omega, by rw [pesC_length]; omega, by omega, by rw [pesC_length]; omega, by omega, by rw [pesC_length]; omega, by kernel_rfl, ?_⟩
              have hkl : k ≤ q.length := by omega
              have hins := insP_at (e := e) hkl hlt (fun y hy => by rw [hx] at hy; rw [← Option.some.inj hy]; simp [ltP, h1, h3])
              have hm : ((q.length : Int) - (k : Int)).toNat = q.length - k := by omega
              have hm1 : (1 + (q.length - k) = 0) = False := eq_false (by omega)
              have hlq := pesC_length q
              have hld : (pesC (q.drop k)).length = (q.length - k) * 3 := by rw [pesC_length, List.length_drop]
              have hlk : (pesC (q.take k)).length = k * 3 := by rw [pesC_length, List.length_take]; omega
              have hA : List.take ((q.length - k) * 3) (List.drop (k * 3) (pesC q)) = pesC (q.drop k) := by rw [pesC_drop]; exact List.take_of_length_le (by omega)
              have hB : min ((q.length - k) * 3) ((pesC q).length - k * 3) = (q.length - k) * 3 := by omega
              have hC : List.take ((1 + (q.length - k)) * 3) (V.u32 e.1 :: V.i64 (e.2.1 : Int) :: V.i64 e.2.2 :: pesC (q.drop k)) = V.u32 e.1 :: V.i64 (e.2.1 : Int) :: V.i64 e.2.2 :: pesC (q.drop k) := List.take_of_length_le (by simp only [List.length_cons]; omega)
              have hD : List.take (k * 3) (pesC (q.take k)) = pesC (q.take k) := List.take_of_length_le (by omega)
              have hE : pesC (insP q e) = pesC (q.take k) ++ V.u32 e.1 :: V.i64 (e.2.1 : Int) :: V.i64 e.2.2 :: pesC (q.drop k) := by rw [hins, pesC_append, pesC_cons]; rfl
              have hone : ∀ u ∈ V.u32 e.1 :: V.i64 (e.2.1 : Int) :: V.i64 e.2.2 :: pesC (q.drop k), u.one = true := pesC_one (e :: q.drop k)
              have hln := insP_length q e
              refine ⟨⟨by omega, by omega⟩, ?_⟩
              rw [show ((k : Int) - 0).toNat = k by omega]
              by_cases hk0 : k = 0
              · have hmF : (q.length - k = 0) = False := eq_false (by omega)
                refine goCallD_mem [2] (Copy0_spec q k hk0) (by kernel_rfl) (by simp [-List.map_map, -List.map_set, pesC_rens, pesC_lows]) rfl (by simp [-List.map_map, -List.map_set, pesC_rens, pesC_lows]) (by decide) (by simp [-List.map_map, -List.map_set, pesC_rens, pesC_lows]) (by simp [-List.map_map, -List.map_set, pesC_rens, pesC_lows]) (by simp [-List.map_map, -List.map_set, pesC_rens, pesC_lows]) (by simp [-List.map_map, -List.map_set, pesC_rens, pesC_lows]) (by simp) ?_
                simp -implicitDefEqProofs only [go_sem, ↓reduceIte, Nat.reduceEqDiff, Nat.reduceLT, Nat.reduceLeDiff, Nat.reduceAdd, Nat.reduceSub, Nat.reduceMul, Nat.reduceMod, Nat.reduceDiv, Int.reduceLE, Int.reduceLT, Int.reduceToNat, Int.reduceAdd, Int.reduceSub, Int.reduceMul, Int.reduceEq, Int.reduceNeg, BitVec.reduceOfInt, BitVec.reduceToNat, BitVec.reduceEq, BitVec.reduceNe, BitVec.reduceLT, reduceCtorEq, List.forall_mem_nil, hm, hmF, hm1, hA, hB, pesC_rens]
                refine ⟨⟨by omega, by omega⟩, ⟨by omega, by omega, by omega, fun u hu => pesC_one _ u hu, by omega⟩, ⟨by omega, by omega, by omega, fun u hu => hone u (List.mem_of_mem_take hu), by omega⟩, by kernel_rfl, ?_⟩
                have hq0 : pesC (insP q e) = V.u32 e.1 :: V.i64 (e.2.1 : Int) :: V.i64 e.2.2 :: pesC (q.drop k) := by rw [hE, hk0]; rfl
                have hl1 : (insP q e).length = 1 + (q.length - k) := by omega
                have hC2 : List.take ((1 + (q.length - k)) * 3) (pesC (insP q e)) = pesC (insP q e) := List.take_of_length_le (by rw [pesC_length]; omega)
                refine again_ren (j - 1) (raS L (insP q e) (i + 1)) [0, 1, 6] (by omega) rfl (by simp) rfl (by decide) (by simp [slotsOk, St.get, lookS, raS, hw1, hl1]) (by simp [raS, pesC_rens, pesC_lows, hC2, ← hq0]) ⟨i + 1, by omega, .inr ⟨by omega, by rw [hks]; rfl⟩⟩
              · by_cases hm0 : q.length - k = 0
                · refine goCallD_mem [2] (Copy_spec q k hkl (by omega) (by omega)) (by kernel_rfl) (by simp [-List.map_map, -List.map_set, pesC_rens, pesC_lows]) rfl (by simp [-List.map_map, -List.map_set, pesC_rens, pesC_lows]) (by decide) (by simp [-List.map_map, -List.map_set, pesC_rens, pesC_lows]) (by simp [-List.map_map, -List.map_set, pesC_rens, pesC_lows]) (by simp [-List.map_map, -List.map_set, pesC_rens, pesC_lows]) (by simp [-List.map_map, -List.map_set, pesC_rens, pesC_lows]) (by simp) ?_
                  simp -implicitDefEqProofs only [go_sem, ↓reduceIte, Nat.reduceEqDiff, Nat.reduceLT, Nat.reduceLeDiff, Nat.reduceAdd, Nat.reduceSub, Nat.reduceMul, Nat.reduceMod, Nat.reduceDiv, Int.reduceLE, Int.reduceLT, Int.reduceToNat, Int.reduceAdd, Int.reduceSub, Int.reduceMul, Int.reduceEq, Int.reduceNeg, BitVec.reduceOfInt, BitVec.reduceToNat, BitVec.reduceEq, BitVec.reduceNe, BitVec.reduceLT, reduceCtorEq, List.forall_mem_nil, hm, hm0, hm1, hA, hB, pesC_rens]
                  refine ⟨⟨by omega, by omega⟩, by omega, ⟨by omega, by omega, by omega⟩, by kernel_rfl, ?_⟩
                  have hq0 : pesC (insP q e) = pesC (q.take k) ++ [V.u32 e.1, V.i64 (e.2.1 : Int), V.i64 e.2.2] := by rw [hE, List.drop_of_length_le (by omega)]; rfl
                  have hl1 : (insP q e).length = k + 1 := by omega
                  refine again_ren (j - 1) (raS L (insP q e) (i + 1)) [0, 1, 6] (by omega) rfl (by simp) rfl (by decide) (by simp [slotsOk, St.get, lookS, raS, hw1, hl1]) (by simp [raS, pesC_rens, pesC_lows, hD, ← hq0]) ⟨i + 1, by omega, .inr ⟨by omega, by rw [hks]; rfl⟩⟩
                · refine goCallD_mem [2] (Copy_spec q k hkl (by omega) (by omega)) (by kernel_rfl) (by simp [-List.map_map, -List.map_set, pesC_rens, pesC_lows]) rfl (by simp [-List.map_map, -List.map_set, pesC_rens, pesC_lows]) (by decide) (by simp [-List.map_map, -List.map_set, pesC_rens, pesC_lows]) (by simp [-List.map_map, -List.map_set, pesC_rens, pesC_lows]) (by simp [-List.map_map, -List.map_set, pesC_rens, pesC_lows]) (by simp [-List.map_map, -List.map_set, pesC_rens, pesC_lows]) (by simp) ?_
                  simp -implicitDefEqProofs only [go_sem, ↓reduceIte, Nat.reduceEqDiff, Nat.reduceLT, Nat.reduceLeDiff, Nat.reduceAdd, Nat.reduceSub, Nat.reduceMul, Nat.reduceMod, Nat.reduceDiv, Int.reduceLE, Int.reduceLT, Int.reduceToNat, Int.reduceAdd, Int.reduceSub, Int.reduceMul, Int.reduceEq, Int.reduceNeg, BitVec.reduceOfInt, BitVec.reduceToNat, BitVec.reduceEq, BitVec.reduceNe, BitVec.reduceLT, reduceCtorEq, List.forall_mem_nil, hm, hm0, hm1, hA, hB, pesC_rens]
                  refine ⟨⟨by omega, by omega⟩, ⟨by omega, by omega, by omega, fun u hu => pesC_one _ u hu, by omega⟩, ⟨by omega, by omega, by omega, by omega, fun u hu => hone u (List.mem_of_mem_take hu), by omega⟩, by kernel_rfl, ?_⟩
                  have hl1 : (insP q e).length = k + (1 + (q.length - k)) := by omega
                  refine again_ren (j - 1) (raS L (insP q e) (i + 1)) [0, 1, 7] (by omega) rfl (by simp) rfl (by decide) (by simp [slotsOk, St.get, lookS, raS, hw1, hl1]) (by simp [raS, pesC_rens, pesC_lows, hC, hD, ← hE]) ⟨i + 1, by omega, .inr ⟨by omega, by rw [hks]; rfl⟩⟩
          · simp -implicitDefEqProofs only [go_sem, ↓reduceIte, Nat.reduceEqDiff, Nat.reduceLT, Nat.reduceLeDiff, Nat.reduceAdd, Nat.reduceSub, Nat.reduceMul, Nat.reduceMod, Nat.reduceDiv, Int.reduceLE, Int.reduceLT, Int.reduceToNat, Int.reduceAdd, Int.reduceSub, Int.reduceMul, Int.reduceEq, Int.reduceNeg, BitVec.reduceOfInt, BitVec.reduceToNat, BitVec.reduceEq, BitVec.reduceNe, BitVec.reduceLT, reduceCtorEq, List.forall_mem_nil, hk', hg0, hg1, h1, h2, peC]
            refine ⟨by omega, by rw [pesC_length]; omega, by omega, by rw [pesC_length]; omega, by kernel_rfl, ?_⟩
            have hkl : k ≤ q.length := by omega
            have hins := insP_at (e := e) hkl hlt (fun y hy => by rw [hx] at hy; rw [← Option.some.inj hy]; simp [ltP, h1, h2])
            have hm : ((q.length : Int) - (k : Int)).toNat = q.length - k := by omega
            have hm1 : (1 + (q.length - k) = 0) = False := eq_false (by omega)
            have hlq := pesC_length q
            have hld : (pesC (q.drop k)).length = (q.length - k) * 3 := by rw [pesC_length, List.length_drop]
            have hlk : (pesC (q.take k)).length = k * 3 := by rw [pesC_length, List.length_take]; omega
            have hA : List.take ((q.length - k) * 3) (List.drop (k * 3) (pesC q)) = pesC (q.drop k) := by rw [pesC_drop]; exact List.take_of_length_le (by omega)
            have hB : min ((q.length - k) * 3) ((pesC q).length - k * 3) = (q.length - k) * 3 := by omega
            have hC : List.take ((1 + (q.length - k)) * 3) (V.u32 e.1 :: V.i64 (e.2.1 : Int) :: V.i64 e.2.2 :: pesC (q.drop k)) = V.u32 e.1 :: V.i64 (e.2.1 : Int) :: V.i64 e.2.2 :: pesC (q.drop k) := List.take_of_length_le (by simp only [List.length_cons]; omega)
            have hD : List.take (k * 3) (pesC (q.take k)) = pesC (q.take k) := List.take_of_length_le (by omega)
            have hE : pesC (insP q e) = pesC (q.take k) ++ V.u32 e.1 :: V.i64 (e.2.1 : Int) :: V.i64 e.2.2 :: pesC (q.drop k) := by rw [hins, pesC_append, pesC_cons]; rfl
            have hone : ∀ u ∈ V.u32 e.1 :: V.i64 (e.2.1 : Int) :: V.i64 e.2.2 :: pesC (q.drop k), u.one = true := pesC_one (e :: q.drop k)
            have hln := insP_length q e
            refine ⟨⟨by omega, by omega⟩, ?_⟩
            rw [show ((k : Int) - 0).toNat = k by omega]
            by_cases hk0 : k = 0
            · have hmF : (q.length - k = 0) = False := eq_false (by omega)
              refine goCallD_mem [2] (Copy0_spec q k hk0) (by kernel_rfl) (by simp [-List.map_map, -List.map_set, pesC_rens, pesC_lows]) rfl (by simp [-List.map_map, -List.map_set, pesC_rens, pesC_lows]) (by decide) (by simp [-List.map_map, -List.map_set, pesC_rens, pesC_lows]) (by simp [-List.map_map, -List.map_set, pesC_rens, pesC_lows]) (by simp [-List.map_map, -List.map_set, pesC_rens, pesC_lows]) (by simp [-List.map_map, -List.map_set, pesC_rens, pesC_lows]) (by simp) ?_
              simp -implicitDefEqProofs only [go_sem, ↓reduceIte, Nat.reduceEqDiff, Nat.reduceLT, Nat.reduceLeDiff, Nat.reduceAdd, Nat.reduceSub, Nat.reduceMul, Nat.reduceMod, Nat.reduceDiv, Int.reduceLE, Int.reduceLT, Int.reduceToNat, Int.reduceAdd, Int.reduceSub, Int.reduceMul, Int.reduceEq, Int.reduceNeg, BitVec.reduceOfInt, BitVec.reduceToNat, BitVec.reduceEq, BitVec.reduceNe, BitVec.reduceLT, reduceCtorEq, List.forall_mem_nil, hm, hmF, hm1, hA, hB, pesC_rens]
              refine ⟨⟨by omega, by omega⟩, ⟨by omega, by omega, by omega, fun u hu => pesC_one _ u hu, by omega⟩, ⟨by omega, by omega, by omega, fun u hu => hone u (List.mem_of_mem_take hu), by omega⟩, by kernel_rfl, ?_⟩
              have hq0 : pesC (insP q e) = V.u32 e.1 :: V.i64 (e.2.1 : Int) :: V.i64 e.2.2 :: pesC (q.drop k) := by rw [hE, hk0]; rfl
              have hl1 : (insP q e).length = 1 + (q.length - k) := by omega
              have hC2 : List.take ((1 + (q.length - k)) * 3) (pesC (insP q e)) = pesC (insP q e) := List.take_of_length_le (by rw [pesC_length]; omega)
              refine again_ren (j - 1) (raS L (insP q e) (i + 1)) [0, 1, 6] (by omega) rfl (by simp) rfl (by decide) (by simp [slotsOk, St.get, lookS, raS, hw1, hl1]) (by simp [raS, pesC_rens, pesC_lows, hC2, ← hq0]) ⟨i + 1, by omega, .inr ⟨by omega, by rw [hks]; rfl⟩⟩
            · by_cases hm0 : q.length - k = 0
              · refine goCallD_mem [2] (Copy_spec q k hkl (by omega) (by omega)) (by kernel_rfl) (by simp [-List.map_map, -List.map_set, pesC_rens, pesC_lows]) rfl (by simp [-List.map_map, -List.map_set, pesC_rens, pesC_lows]) (by decide) (by simp [-List.map_map, -List.map_set, pesC_rens, pesC_lows]) (by simp [-List.map_map, -List.map_set, pesC_rens, pesC_lows]) (by simp [-List.map_map, -List.map_set, pesC_rens, pesC_lows]) (by simp [-List.map_map, -List.map_set, pesC_rens, pesC_lows]) (by simp) ?_
                simp -implicitDefEqProofs only [go_sem, ↓reduceIte, Nat.reduceEqDiff, Nat.reduceLT, Nat.reduceLeDiff, Nat.reduceAdd, Nat.reduceSub, Nat.reduceMul, Nat.reduceMod, Nat.reduceDiv, Int.reduceLE, Int.reduceLT, Int.reduceToNat, Int.reduceAdd, Int.reduceSub, Int.reduceMul, Int.reduceEq, Int.reduceNeg, BitVec.reduceOfInt, BitVec.reduceToNat, BitVec.reduceEq, BitVec.reduceNe, BitVec.reduceLT, reduceCtorEq, List.forall_mem_nil, hm, hm0, hm1, hA, hB, pesC_rens]
                refine ⟨⟨by omega, by omega⟩, by omega, ⟨by omega, by omega, by omega⟩, by kernel_rfl, ?_⟩
                have hq0 : pesC (insP q e) = pesC (q.take k) ++ [V.u32 e.1, V.i64 (e.2.1 : Int), V.i64 e.2.2] := by rw [hE, List.drop_of_length_le (by omega)]; rfl
                have hl1 : (insP q e).length = k + 1 := by omega
                refine again_ren (j - 1) (raS L (insP q e) (i + 1)) [0, 1, 6] (by omega) rfl (by simp) rfl (by decide) (by simp [slotsOk, St.get, lookS, raS, hw1, hl1]) (by simp [raS, pesC_rens, pesC_lows, hD, ← hq0]) ⟨i + 1, by omega, .inr ⟨by omega, by rw [hks]; rfl⟩⟩
              · refine goCallD_mem [2] (Copy_spec q k hkl (by omega) (by omega)) (by kernel_rfl) (by simp [-List.map_map, -List.map_set, pesC_rens, pesC_lows]) rfl (by simp [-List.map_map, -List.map_set, pesC_rens, pesC_lows]) (by decide) (by simp [-List.map_map, -List.map_set, pesC_rens, pesC_lows]) (by simp [-List.map_map, -List.map_set, pesC_rens, pesC_lows]) (by simp [-List.map_map, -List.map_set, pesC_rens, pesC_lows]) (by simp [-List.map_map, -List.map_set, pesC_rens, pesC_lows]) (by simp) ?_
                simp -implicitDefEqProofs only [go_sem, ↓reduceIte, Nat.reduceEqDiff, Nat.reduceLT, Nat.reduceLeDiff, Nat.reduceAdd, Nat.reduceSub, Nat.reduceMul, Nat.reduceMod, Nat.reduceDiv, Int.reduceLE, Int.reduceLT, Int.reduceToNat, Int.reduceAdd, Int.reduceSub, Int.reduceMul, Int.reduceEq, Int.reduceNeg, BitVec.reduceOfInt, BitVec.reduceToNat, BitVec.reduceEq, BitVec.reduceNe, BitVec.reduceLT, reduceCtorEq, List.forall_mem_nil, hm, hm0, hm1, hA, hB, pesC_rens]
                refine ⟨⟨by omega, by omega⟩, ⟨by omega, by omega, by omega, fun u hu => pesC_one _ u hu, by omega⟩, ⟨by omega, by omega, by omega, by omega, fun u hu => hone u (List.mem_of_mem_take hu), by omega⟩, by kernel_rfl, ?_⟩
                have hl1 : (insP q e).length = k + (1 + (q.length - k)) := by omega
                refine again_ren (j - 1) (raS L (insP q e) (i + 1)) [0, 1, 7] (by omega) rfl (by simp) rfl (by decide) (by simp [slotsOk, St.get, lookS, raS, hw1, hl1]) (by simp [raS, pesC_rens, pesC_lows, hC, hD, ← hE]) ⟨i + 1, by omega, .inr ⟨by omega, by rw [hks]; rfl⟩⟩
      · have hk' : ¬ (k : Int) < (q.length : Int) := by omega
        simp -implicitDefEqProofs only [go_sem, ↓reduceIte, Nat.reduceEqDiff, Nat.reduceLT, Nat.reduceLeDiff, Nat.reduceAdd, Nat.reduceSub, Nat.reduceMul, Nat.reduceMod, Nat.reduceDiv, Int.reduceLE, Int.reduceLT, Int.reduceToNat, Int.reduceAdd, Int.reduceSub, Int.reduceMul, Int.reduceEq, Int.reduceNeg, BitVec.reduceOfInt, BitVec.reduceToNat, BitVec.reduceEq, BitVec.reduceNe, BitVec.reduceLT, reduceCtorEq, List.forall_mem_nil, hk', peC]
        refine ⟨by kernel_rfl, ?_⟩
        have hkl : k ≤ q.length := by omega
        have hins := insP_at (e := e) hkl hlt (fun y hy => by rw [List.getElem?_eq_none (by omega)] at hy; cases hy)
        have hm : ((q.length : Int) - (k : Int)).toNat = q.length - k := by omega
        have hm1 : (1 + (q.length - k) = 0) = False := eq_false (by omega)
        have hlq := pesC_length q
        have hld : (pesC (q.drop k)).length = (q.length - k) * 3 := by rw [pesC_length, List.length_drop]
        have hlk : (pesC (q.take k)).length = k * 3 := by rw [pesC_length, List.length_take]; omega
        have hA : List.take ((q.length - k) * 3) (List.drop (k * 3) (pesC q)) = pesC (q.drop k) := by rw [pesC_drop]; exact List.take_of_length_le (by omega)
        have hB : min ((q.length - k) * 3) ((pesC q).length - k * 3) = (q.length - k) * 3 := by omega
        have hC : List.take ((1 + (q.length - k)) * 3) (V.u32 e.1 :: V.i64 (e.2.1 : Int) :: V.i64 e.2.2 :: pesC (q.drop k)) = V.u32 e.1 :: V.i64 (e.2.1 : Int) :: V.i64 e.2.2 :: pesC (q.drop k) := List.take_of_length_le (by simp only [List.length_cons]; omega)
        have hD : List.take (k * 3) (pesC (q.take k)) = pesC (q.take k) := List.take_of_length_le (by omega)
        have hE : pesC (insP q e) = pesC (q.take k) ++ V.u32 e.1 :: V.i64 (e.2.1 : Int) :: V.i64 e.2.2 :: pesC (q.drop k) := by rw [hins, pesC_append, pesC_cons]; rfl
        have hone : ∀ u ∈ V.u32 e.1 :: V.i64 (e.2.1 : Int) :: V.i64 e.2.2 :: pesC (q.drop k), u.one = true := pesC_one (e :: q.drop k)
        have hln := insP_length q e
        refine ⟨⟨by omega, by omega⟩, ?_⟩
        rw [show ((k : Int) - 0).toNat = k by omega]
        by_cases hk0 : k = 0
        · have hmF : (q.length - k = 0) = False := eq_false (by omega)
          refine goCallD_mem [2] (Copy0_spec q k hk0) (by kernel_rfl) (by simp [-List.map_map, -List.map_set, pesC_rens, pesC_lows]) rfl (by simp [-List.map_map, -List.map_set, pesC_rens, pesC_lows]) (by decide) (by simp [-List.map_map, -List.map_set, pesC_rens, pesC_lows]) (by simp [-List.map_map, -List.map_set, pesC_rens, pesC_lows]) (by simp [-List.map_map, -List.map_set, pesC_rens, pesC_lows]) (by simp [-List.map_map, -List.map_set, pesC_rens, pesC_lows]) (by simp) ?_
          simp -implicitDefEqProofs only [go_sem, ↓reduceIte, Nat.reduceEqDiff, Nat.reduceLT, Nat.reduceLeDiff, Nat.reduceAdd, Nat.reduceSub, Nat.reduceMul, Nat.reduceMod, Nat.reduceDiv, Int.reduceLE, Int.reduceLT, Int.reduceToNat, Int.reduceAdd, Int.reduceSub, Int.reduceMul, Int.reduceEq, Int.reduceNeg, BitVec.reduceOfInt, BitVec.reduceToNat, BitVec.reduceEq, BitVec.reduceNe, BitVec.reduceLT, reduceCtorEq, List.forall_mem_nil, hm, hmF, hm1, hA, hB, pesC_rens]
          refine ⟨⟨by omega, by omega⟩, ⟨by omega, by omega, by omega, fun u hu => pesC_one _ u hu, by omega⟩, ⟨by omega, by omega, by omega, fun u hu => hone u (List.mem_of_mem_take hu), by omega⟩, by kernel_rfl, ?_⟩
          have hq0 : pesC (insP q e) = V.u32 e.1 :: V.i64 (e.2.1 : Int) :: V.i64 e.2.2 :: pesC (q.drop k) := by rw [hE, hk0]; rfl
          have hl1 : (insP q e).length = 1 + (q.length - k) := by omega
          have hC2 : List.take ((1 + (q.length - k)) * 3) (pesC (insP q e)) = pesC (insP q e) := List.take_of_length_le (by rw [pesC_length]; omega)
          refine again_ren (j - 1) (raS L (insP q e) (i + 1)) [0, 1, 6] (by omega) rfl (by simp) rfl (by decide) (by simp [slotsOk, St.get, lookS, raS, hw1, hl1]) (by simp [raS, pesC_rens, pesC_lows, hC2, ← hq0]) ⟨i + 1, by omega, .inr ⟨by omega, by rw [hks]; rfl⟩⟩
        · by_cases hm0 : q.length - k = 0
          · refine goCallD_mem [2] (Copy_spec q k hkl (by omega) (by omega)) (by kernel_rfl) (by simp [-List.map_map, -List.map_set, pesC_rens, pesC_lows]) rfl (by simp [-List.map_map, -List.map_set, pesC_rens, pesC_lows]) (by decide) (by simp [-List.map_map, -List.map_set, pesC_rens, pesC_lows]) (by simp [-List.map_map, -List.map_set, pesC_rens, pesC_lows]) (by simp [-List.map_map, -List.map_set, pesC_rens, pesC_lows]) (by simp [-List.map_map, -List.map_set, pesC_rens, pesC_lows]) (by simp) ?_
            simp -implicitDefEqProofs only [go_sem, ↓reduceIte, Nat.reduceEqDiff, Nat.reduceLT, Nat.reduceLeDiff, Nat.reduceAdd, Nat.reduceSub, Nat.reduceMul, Nat.reduceMod, Nat.reduceDiv, Int.reduceLE, Int.reduceLT, Int.reduceToNat, Int.reduceAdd, Int.reduceSub, Int.reduceMul, Int.reduceEq, Int.reduceNeg, BitVec.reduceOfInt, BitVec.reduceToNat, BitVec.reduceEq, BitVec.reduceNe, BitVec.reduceLT, reduceCtorEq, List.forall_mem_nil, hm, hm0, hm1, hA, hB, pesC_rens]
            refine ⟨⟨by omega, by omega⟩, by omega, ⟨by omega, by omega, by omega⟩, by kernel_rfl, ?_⟩
            have hq0 : pesC (insP q e) = pesC (q.take k) ++ [V.u32 e.1, V.i64 (e.2.1 : Int), V.i64 e.2.2] := by rw [hE, List.drop_of_length_le (by omega)]; rfl
            have hl1 : (insP q e).length = k + 1 := by omega
            refine again_ren (j - 1) (raS L (insP q e) (i + 1)) [0, 1, 6] (by omega) rfl (by simp) rfl (by decide) (by simp [slotsOk, St.get, lookS, raS, hw1, hl1]) (by simp [raS, pesC_rens, pesC_lows, hD, ← hq0]) ⟨i + 1, by omega, .inr ⟨by omega, by rw [hks]; rfl⟩⟩
          · refine goCallD_mem [2] (Copy_spec q k hkl (by omega) (by omega)) (by kernel_rfl) (by simp [-List.map_map, -List.map_set, pesC_rens, pesC_lows]) rfl (by simp [-List.map_map, -List.map_set, pesC_rens, pesC_lows]) (by decide) (by simp [-List.map_map, -List.map_set, pesC_rens, pesC_lows]) (by simp [-List.map_map, -List.map_set, pesC_rens, pesC_lows]) (by simp [-List.map_map, -List.map_set, pesC_rens, pesC_lows]) (by simp [-List.map_map, -List.map_set, pesC_rens, pesC_lows]) (by simp) ?_
            simp -implicitDefEqProofs only [go_sem, ↓reduceIte, Nat.reduceEqDiff, Nat.reduceLT, Nat.reduceLeDiff, Nat.reduceAdd, Nat.reduceSub, Nat.reduceMul, Nat.reduceMod, Nat.reduceDiv, Int.reduceLE, Int.reduceLT, Int.reduceToNat, Int.reduceAdd, Int.reduceSub, Int.reduceMul, Int.reduceEq, Int.reduceNeg, BitVec.reduceOfInt, BitVec.reduceToNat, BitVec.reduceEq, BitVec.reduceNe, BitVec.reduceLT, reduceCtorEq, List.forall_mem_nil, hm, hm0, hm1, hA, hB, pesC_rens]
            refine ⟨⟨by omega, by omega⟩, ⟨by omega, by omega, by omega, fun u hu => pesC_one _ u hu, by omega⟩, ⟨by omega, by omega, by omega, by omega, fun u hu => hone u (List.mem_of_mem_take hu), by omega⟩, by kernel_rfl, ?_⟩
            have hl1 : (insP q e).length = k + (1 + (q.length - k)) := by omega
            refine again_ren (j - 1) (raS L (insP q e) (i + 1)) [0, 1, 7] (by omega) rfl (by simp) rfl (by decide) (by simp [slotsOk, St.get, lookS, raS, hw1, hl1]) (by simp [raS, pesC_rens, pesC_lows, hC, hD, ← hE]) ⟨i + 1, by omega, .inr ⟨by omega, by rw [hks]; rfl⟩⟩
  · have hi' : ¬ (i : Int) < (L.length : Int) := by omega
    have hti : L.take i = L := List.take_of_length_le (by omega)
    rcases hst with ⟨rfl, rfl⟩ | ⟨hi0, rfl⟩
    · omega
    rw [hti]
    have hql := sortP_length L
    unfold raS
    simp -implicitDefEqProofs only [go_sem, ↓reduceIte, Nat.reduceEqDiff, Nat.reduceLT, Nat.reduceLeDiff, Nat.reduceAdd, Nat.reduceSub, Nat.reduceMul, Nat.reduceMod, Nat.reduceDiv, Int.reduceLE, Int.reduceLT, Int.reduceToNat, Int.reduceAdd, Int.reduceSub, Int.reduceMul, Int.reduceEq, Int.reduceNeg, BitVec.reduceOfInt, BitVec.reduceToNat, BitVec.reduceEq, BitVec.reduceNe, BitVec.reduceLT, reduceCtorEq, List.forall_mem_nil, hi', hql]
    exact Fin.ren [0, 1, 2] (by simp) (by simp) (by rfl) (by decide) (by simp [-List.map_map, -List.map_set, pesC_rens, pesC_lows]) (by simp [-List.map_map, -List.map_set, pesC_rens, pesC_lows])
end Go.Vm
end
section
-- NIDP
namespace Go.Vm
open Go.Proofs
set_option maxRecDepth 20000
theorem EqPN_spec : PureFn Try.prog 18 [.nilSlice, .nilSlice] (.bool true) := by
  refine pure_of_vc (by kernel_rfl) (fn := Try.f18) (by kernel_rfl) Try.func18 rfl (by show 2 ≤ 26; decide) (by simp [lows, V.low]) (by simp [lows, V.low, lows_ite, low_ite]) (go_start ?_)
  simp -implicitDefEqProofs only [go_sem, ↓reduceIte, Nat.reduceEqDiff, Nat.reduceLT, Nat.reduceLeDiff, Nat.reduceAdd, Nat.reduceSub, Nat.reduceMul, Nat.reduceMod, Nat.reduceDiv, Int.reduceLE, Int.reduceLT, Int.reduceToNat, Int.reduceAdd, Int.reduceSub, Int.reduceMul, Int.reduceEq, Int.reduceNeg, BitVec.reduceOfInt, BitVec.reduceToNat, BitVec.reduceEq, BitVec.reduceNe, BitVec.reduceLT, reduceCtorEq, List.forall_mem_nil, Try.ntmps18, Try.results18]
  refine go_unroll 1 ?_
  simp -implicitDefEqProofs only [go_sem, ↓reduceIte, Nat.reduceEqDiff, Nat.reduceLT, Nat.reduceLeDiff, Nat.reduceAdd, Nat.reduceSub, Nat.reduceMul, Nat.reduceMod, Nat.reduceDiv, Int.reduceLE, Int.reduceLT, Int.reduceToNat, Int.reduceAdd, Int.reduceSub, Int.reduceMul, Int.reduceEq, Int.reduceNeg, BitVec.reduceOfInt, BitVec.reduceToNat, BitVec.reduceEq, BitVec.reduceNe, BitVec.reduceLT, reduceCtorEq, List.forall_mem_nil]
theorem EqP_spec (M : List Pe) (hM : M.length ≤ 64) : Spec0 Try.prog 18 [.slice 0 0 M.length 3, .slice 1 0 M.length 3] [some ⟨false, pesC M, none⟩, some ⟨false, pesC M, none⟩] (.bool true) [some ⟨false, pesC M, none⟩, some ⟨false, pesC M, none⟩] := by
  refine spec0_of_vc (by kernel_rfl) (fn := Try.f18) Try.func18 rfl (by show 2 ≤ 26; decide) (go_start ?_)
  simp -implicitDefEqProofs only [go_sem, ↓reduceIte, Nat.reduceEqDiff, Nat.reduceLT, Nat.reduceLeDiff, Nat.reduceAdd, Nat.reduceSub, Nat.reduceMul, Nat.reduceMod, Nat.reduceDiv, Int.reduceLE, Int.reduceLT, Int.reduceToNat, Int.reduceAdd, Int.reduceSub, Int.reduceMul, Int.reduceEq, Int.reduceNeg, BitVec.reduceOfInt, BitVec.reduceToNat, BitVec.reduceEq, BitVec.reduceNe, BitVec.reduceLT, reduceCtorEq, List.forall_mem_nil, Try.ntmps18, Try.results18]
  refine go_loop (fun j st => ∃ i : Nat, i + j = M.length ∧ st = ⟨[(1, .slice 1 0 M.length 3), (12, .slice 0 0 M.length 3), (13, .i64 M.length), (14, .i64 i)], [some ⟨false, pesC M, none⟩, some ⟨false, pesC M, none⟩]⟩) ?_ ?_
  · exact start_mk M.length ⟨[(1, .slice 1 0 M.length 3), (12, .slice 0 0 M.length 3), (13, .i64 M.length), (14, .i64 (0 : Nat))], [some ⟨false, pesC M, none⟩, some ⟨false, pesC M, none⟩]⟩ (by simp [St.get, lookS]) rfl (fun _ _ h => h) ⟨0, by omega, rfl⟩
  rintro j st ⟨i, hij, rfl⟩ _
  by_cases hi : i < M.length
  · have hi' : (i : Int) < (M.length : Int) := by omega
    have hw1 : w64 ((i : Int) + 1) = ((i + 1 : Nat) : Int) := by rw [w64_of (by omega) (by omega)]; omega
    obtain ⟨e, he⟩ : ∃ e, M[i]? = some e := ⟨M[i], List.getElem?_eq_getElem hi⟩
    have hrow := pesC_row he
    unfold peC at hrow
    have hmin : min 3 ((pesC M).length - i * 3) = 3 := by rw [pesC_length]; omega
    have hle : i * 3 + 3 ≤ (pesC M).length := by rw [pesC_length]; omega
    simp -implicitDefEqProofs only [go_sem, ↓reduceIte, Nat.reduceEqDiff, Nat.reduceLT, Nat.reduceLeDiff, Nat.reduceAdd, Nat.reduceSub, Nat.reduceMul, Nat.reduceMod, Nat.reduceDiv, Int.reduceLE, Int.reduceLT, Int.reduceToNat, Int.reduceAdd, Int.reduceSub, Int.reduceMul, Int.reduceEq, Int.reduceNeg, BitVec.reduceOfInt, BitVec.reduceToNat, BitVec.reduceEq, BitVec.reduceNe, BitVec.reduceLT, reduceCtorEq, List.forall_mem_nil, hi', hrow, hmin, hle]
    refine ⟨by omega, by omega, by kernel_rfl, ?_⟩
    refine again_ren (j - 1) ⟨[(1, .slice 1 0 M.length 3), (12, .slice 0 0 M.length 3), (13, .i64 M.length), (14, .i64 (i + 1 : Nat))], [some ⟨false, pesC M, none⟩, some ⟨false, pesC M, none⟩]⟩ [0, 1] (by omega) rfl (by simp) rfl (by decide) (by simp [slotsOk, St.get, lookS, hw1]) (by simp [pesC_rens, pesC_lows]) ⟨i + 1, by omega, rfl⟩
  · have hi' : ¬ (i : Int) < (M.length : Int) := by omega
    simp -implicitDefEqProofs only [go_sem, ↓reduceIte, Nat.reduceEqDiff, Nat.reduceLT, Nat.reduceLeDiff, Nat.reduceAdd, Nat.reduceSub, Nat.reduceMul, Nat.reduceMod, Nat.reduceDiv, Int.reduceLE, Int.reduceLT, Int.reduceToNat, Int.reduceAdd, Int.reduceSub, Int.reduceMul, Int.reduceEq, Int.reduceNeg, BitVec.reduceOfInt, BitVec.reduceToNat, BitVec.reduceEq, BitVec.reduceNe, BitVec.reduceLT, reduceCtorEq, List.forall_mem_nil, hi']
    exact Fin.ren [0, 1] (by simp) (by simp) (by rfl) (by decide) (by simp [-List.map_map, -List.map_set, pesC_rens, pesC_lows]) (by simp [-List.map_map, -List.map_set, pesC_rens, pesC_lows])
theorem tmod4 (x : Int) : (0 ≤ x.tmod 4 ∧ x.tmod 4 = x % 4) ∨ (x.tmod 4 < 0 ∧ x.tmod 4 + 4 = x % 4) := by
  have h := Int.tmod_eq_emod (a := x) (b := 4)
  have h1 : 0 ≤ x % 4 := by omega
  have h2 : x % 4 < 4 := by omega
  rw [h]
  split
  · left; omega
  · right
    rename_i hn
    have : (4 : Int).natAbs = 4 := rfl
    have hne : x % 4 ≠ 0 := fun e => hn (.inr (Int.dvd_of_emod_eq_zero e))
    omega
theorem Rest4_spec (x : Int) : PureFn Try.prog 23 [.i64 x, .i64 4] (.i64 (x % 4)) := by
  have h2 : x % 4 < 4 := by omega
  rcases tmod4 x with ⟨h0, h1⟩ | ⟨h0, h1⟩
  · have hn : ¬ x % 4 < 0 := by omega
    refine pure_of_vc (by kernel_rfl) (fn := Try.f23) (by kernel_rfl) Try.func23 rfl (by show 2 ≤ 15; decide) (by simp [lows, V.low]) (by simp [lows, V.low, lows_ite, low_ite]) (go_start ?_)
    simp -implicitDefEqProofs only [go_sem, ↓reduceIte, Nat.reduceEqDiff, Nat.reduceLT, Nat.reduceLeDiff, Nat.reduceAdd, Nat.reduceSub, Nat.reduceMul, Nat.reduceMod, Nat.reduceDiv, Int.reduceLE, Int.reduceLT, Int.reduceToNat, Int.reduceAdd, Int.reduceSub, Int.reduceMul, Int.reduceEq, Int.reduceNeg, BitVec.reduceOfInt, BitVec.reduceToNat, BitVec.reduceEq, BitVec.reduceNe, BitVec.reduceLT, reduceCtorEq, List.forall_mem_nil, Try.ntmps23, Try.results23, hn, h1]
  · have hw : w64 (x.tmod 4 + 4) = x % 4 := by rw [h1, w64_of (by omega) (by omega)]
    refine pure_of_vc (by kernel_rfl) (fn := Try.f23) (by kernel_rfl) Try.func23 rfl (by show 2 ≤ 15; decide) (by simp [lows, V.low]) (by simp [lows, V.low, lows_ite, low_ite]) (go_start ?_)
    simp -implicitDefEqProofs only [go_sem, ↓reduceIte, Nat.reduceEqDiff, Nat.reduceLT, Nat.reduceLeDiff, Nat.reduceAdd, Nat.reduceSub, Nat.reduceMul, Nat.reduceMod, Nat.reduceDiv, Int.reduceLE, Int.reduceLT, Int.reduceToNat, Int.reduceAdd, Int.reduceSub, Int.reduceMul, Int.reduceEq, Int.reduceNeg, BitVec.reduceOfInt, BitVec.reduceToNat, BitVec.reduceEq, BitVec.reduceNe, BitVec.reduceLT, reduceCtorEq, List.forall_mem_nil, Try.ntmps23, Try.results23, h0, hw]
theorem Of4_spec (k a b : Int) (n m : BitVec 32) (s : List (BitVec 8)) (ad : BitVec 32) (bt : Int) : PureFn Try.prog 11 [.agg [.i64 k, .i64 a, .i64 b, .u32 n, .u32 m, .str s, .u32 ad, .i64 bt], .i64 4] (.i64 (k % 4)) := by
  refine pure_of_vc (by kernel_rfl) (fn := Try.f11) (by kernel_rfl) Try.func11 rfl (by show 2 ≤ 9; decide) (by simp [lows, V.low]) (by simp [lows, V.low, lows_ite, low_ite]) (go_start ?_)
  simp -implicitDefEqProofs only [go_sem, ↓reduceIte, Nat.reduceEqDiff, Nat.reduceLT, Nat.reduceLeDiff, Nat.reduceAdd, Nat.reduceSub, Nat.reduceMul, Nat.reduceMod, Nat.reduceDiv, Int.reduceLE, Int.reduceLT, Int.reduceToNat, Int.reduceAdd, Int.reduceSub, Int.reduceMul, Int.reduceEq, Int.reduceNeg, BitVec.reduceOfInt, BitVec.reduceToNat, BitVec.reduceEq, BitVec.reduceNe, BitVec.reduceLT, reduceCtorEq, List.forall_mem_nil, Try.ntmps11, Try.results11]
  refine goCall_pure0 (Rest4_spec k) ?_
  simp -implicitDefEqProofs only [go_sem, ↓reduceIte, Nat.reduceEqDiff, Nat.reduceLT, Nat.reduceLeDiff, Nat.reduceAdd, Nat.reduceSub, Nat.reduceMul, Nat.reduceMod, Nat.reduceDiv, Int.reduceLE, Int.reduceLT, Int.reduceToNat, Int.reduceAdd, Int.reduceSub, Int.reduceMul, Int.reduceEq, Int.reduceNeg, BitVec.reduceOfInt, BitVec.reduceToNat, BitVec.reduceEq, BitVec.reduceNe, BitVec.reduceLT, reduceCtorEq, List.forall_mem_nil]
end Go.Vm
end
section
-- NIDP
namespace Go.Vm
open Go.Proofs
set_option maxRecDepth 20000
def dropN (p : Int) (x : Int × List Nd) (i : Nat) : Int × List Nd :=
  if (x.2.getD i leaf).owner = p then (w64 (x.1 - 1), x.2.set i ⟨(x.2.getD i leaf).k0, (x.2.getD i leaf).k1, false, (x.2.getD i leaf).owner⟩) else x
def dropAll (p : Int) (x : Int × List Nd) (l : List (Int × Int × Nat)) : Int × List Nd := l.foldl (fun x e => dropN p x e.2.2) x
theorem SameK.refl (A : List Nd) : SameK A A := ⟨rfl, fun _ nd h => ⟨nd, h, rfl, rfl⟩⟩
theorem SameK.trans {A B C : List Nd} (h : SameK A B) (k : SameK B C) : SameK A C := ⟨k.1.trans h.1, fun i nd hi => by
  obtain ⟨nd', h1, h2, h3⟩ := h.2 i nd hi
  obtain ⟨nd'', g1, g2, g3⟩ := k.2 i nd' h1
  exact ⟨nd'', g1, g2.trans h2, g3.trans h3⟩⟩
theorem dropN_same (p : Int) (x : Int × List Nd) (i : Nat) : SameK x.2 (dropN p x i).2 ∧ ∀ (j : Nat) nd, (dropN p x i).2[j]? = some nd → j ≠ i → x.2[j]? = some nd := by
  unfold dropN
  split
  · refine ⟨⟨by simp, fun j nd hj => ?_⟩, fun j nd hj hne => ?_⟩
    · simp only
      rw [List.getElem?_set]
      by_cases e : i = j
      · subst e
        have hl := (List.getElem?_eq_some_iff.1 hj).1
        rw [if_pos rfl, if_pos hl]
        refine ⟨_, rfl, ?_, ?_⟩ <;> rw [getD_of hj]
      · rw [if_neg e]; exact ⟨nd, hj, rfl, rfl⟩
    · simp only at hj
      rw [List.getElem?_set, if_neg (fun e => hne e.symm)] at hj
      exact hj
  · exact ⟨SameK.refl _, fun j nd hj _ => hj⟩
theorem dropAll_same (p : Int) : ∀ (l : List (Int × Int × Nat)) (x : Int × List Nd), SameK x.2 (dropAll p x l).2 ∧ ∀ (j : Nat) nd, (dropAll p x l).2[j]? = some nd → j ∉ l.map (·.2.2) → x.2[j]? = some nd
  | [], x => ⟨SameK.refl _, fun _ _ h _ => h⟩
  | e :: l, x => by
    obtain ⟨h1, h2⟩ := dropN_same p x e.2.2
    obtain ⟨g1, g2⟩ := dropAll_same p l (dropN p x e.2.2)
    refine ⟨h1.trans g1, fun j nd hj hn => ?_⟩
    simp only [List.map_cons, List.mem_cons, not_or] at hn
    exact h2 j nd (g2 j nd hj hn.2) hn.1
def dJP (p many : Int) (A : List Nd) (pre : List (Int × Int × Nat)) (H : List (Option Blk)) : Prop :=
  TreeAt id (dropAll p (many, A) pre).1 (dropAll p (many, A) pre).2 H ∧ getH H A.length = some ⟨false, [.ptr 0 0], none⟩ ∧ getH H (A.length + 1) = some ⟨false, [.i64 p], none⟩ ∧ ∀ b B, getH H b = some B → B.ro = false
theorem treeB_rw (many : Int) (A : List Nd) (b : Nat) (B : Blk) (h : getH (treeB many A) b = some B) : B.ro = false := by
  rw [treeB_get] at h
  cases ha : A[b]? with
  | none => rw [ha] at h; cases h
  | some nd => rw [ha] at h; cases h; rfl
theorem rw_app {H : List (Option Blk)} {x : Option Blk} (h : ∀ b B, getH H b = some B → B.ro = false) (hx : ∀ B, x = some B → B.ro = false) : ∀ b B, getH (H ++ [x]) b = some B → B.ro = false := fun b B hB => by
  by_cases hb : b < H.length
  · rw [getH_app hb] at hB; exact h b B hB
  · have hl := getH_lt hB
    simp at hl
    have : b = H.length := by omega
    subst this
    rw [getH_new] at hB
    exact hx B hB
theorem rw_set {H : List (Option Blk)} {x : Option Blk} (h : ∀ b B, getH H b = some B → B.ro = false) (hx : ∀ B, x = some B → B.ro = false) (i : Nat) : ∀ b B, getH (H.set i x) b = some B → B.ro = false := fun b B hB => by
  by_cases hi : i = b
  · subst hi
    have hl := getH_lt hB
    rw [getH_set_same (by simpa using hl)] at hB
    exact hx B hB
  · rw [getH_set_ne hi] at hB; exact h b B hB
set_option maxHeartbeats 2000000 in
theorem Drop_spec (p many : Int) (A : List Nd) (tl tr : Sh) (hA : Closed A) (hsh : ShIn A (.node 0 tl tr)) (hids : ∀ i ∈ (Sh.node 0 tl tr).ids, i < A.length) (hnd : (Sh.node 0 tl tr).ids.Nodup) (hh : (Sh.node 0 tl tr).hgt ≤ 33) (R : Int × List Nd) (hR : dropAll p (many, A) (walkL (fun i => (A.getD i leaf).is) (.node 0 tl tr) 0 0) = R) :
    Spec0 Try.prog 12 [.ptr 0 0, .i64 p] (treeB many A) (.i64 (w64 (many - R.1))) (treeB R.1 R.2) := by
  have hL : (treeB many A ++ [some (⟨false, [.ptr 0 0], none⟩ : Blk)]).length = A.length + 1 := by simp [treeB_length]
  have hg1 : getH (treeB many A ++ [some (⟨false, [.ptr 0 0], none⟩ : Blk), some ⟨false, [.i64 p], none⟩]) A.length = some ⟨false, [.ptr 0 0], none⟩ := by
    rw [← treeB_length many A]; exact getH_new _ _ _
  have hg2 : getH (treeB many A ++ [some (⟨false, [.ptr 0 0], none⟩ : Blk), some ⟨false, [.i64 p], none⟩]) (A.length + 1) = some ⟨false, [.i64 p], none⟩ := by
    have : treeB many A ++ [some (⟨false, [.ptr 0 0], none⟩ : Blk), some ⟨false, [.i64 p], none⟩] = (treeB many A ++ [some (⟨false, [.ptr 0 0], none⟩ : Blk)]) ++ [some ⟨false, [.i64 p], none⟩] := by simp
    rw [this, ← hL]; exact getH_new _ _ _
  obtain ⟨r, hr⟩ : ∃ r, A[0]? = some r := ⟨A[0]'hA.1, List.getElem?_eq_getElem hA.1⟩
  have hT0 : TreeAt id many A (treeB many A ++ [some (⟨false, [.ptr 0 0], none⟩ : Blk), some ⟨false, [.i64 p], none⟩]) := (TreeAt.init hA).app _
  have hg0 : getH (treeB many A ++ [some (⟨false, [.ptr 0 0], none⟩ : Blk), some ⟨false, [.i64 p], none⟩]) 0 = some ⟨false, [kidV id r.k0, kidV id r.k1, .bool r.is, .i64 r.owner, .i64 many], none⟩ := hT0.here 0 r hr
  refine spec0_range (by kernel_rfl) (fn := Try.f12) Try.func12 rfl (by show 2 ≤ 38; decide) (by kernel_rfl) (by show 14 < 38; decide) (by show 15 < 38; decide) (by kernel_rfl) (by kernel_rfl)
    (S3 := ⟨[(2, .ptr A.length 0), (3, .ptr (A.length + 1) 0), (5, .i64 many), (13, .fn 24 [.ptr 0 0] [])], treeB many A ++ [some (⟨false, [.ptr 0 0], none⟩ : Blk), some ⟨false, [.i64 p], none⟩]⟩) (t0 := [(2, .ptr A.length 0), (3, .ptr (A.length + 1) 0), (5, .i64 many)]) (m := A.length + 2) ?_ (by rw [treeB_length]; omega) (by simp [treeB_length]) A tl tr (fun i => (A.getD i leaf).is) (dJP p many A) id ?_ ?_ ?_ ?_ ?_ ?_ hsh hids hnd hh ?_ ?_
  · refine go_start ?_
    simp -implicitDefEqProofs only [go_sem, ↓reduceIte, Nat.reduceEqDiff, Nat.reduceLT, Nat.reduceLeDiff, Nat.reduceAdd, Nat.reduceSub, Nat.reduceMul, Nat.reduceMod, Nat.reduceDiv, Int.reduceLE, Int.reduceLT, Int.reduceToNat, Int.reduceAdd, Int.reduceSub, Int.reduceMul, Int.reduceEq, Int.reduceNeg, BitVec.reduceOfInt, BitVec.reduceToNat, BitVec.reduceEq, BitVec.reduceNe, BitVec.reduceLT, reduceCtorEq, List.forall_mem_nil, treeB_length]
    refine go_start ?_
    simp -implicitDefEqProofs only [go_sem, ↓reduceIte, Nat.reduceEqDiff, Nat.reduceLT, Nat.reduceLeDiff, Nat.reduceAdd, Nat.reduceSub, Nat.reduceMul, Nat.reduceMod, Nat.reduceDiv, Int.reduceLE, Int.reduceLT, Int.reduceToNat, Int.reduceAdd, Int.reduceSub, Int.reduceMul, Int.reduceEq, Int.reduceNeg, BitVec.reduceOfInt, BitVec.reduceToNat, BitVec.reduceEq, BitVec.reduceNe, BitVec.reduceLT, reduceCtorEq, List.forall_mem_nil, List.append_assoc, List.cons_append, List.nil_append, hg1, hg0]
    refine go_start ?_
    simp -implicitDefEqProofs only [go_sem, ↓reduceIte, Nat.reduceEqDiff, Nat.reduceLT, Nat.reduceLeDiff, Nat.reduceAdd, Nat.reduceSub, Nat.reduceMul, Nat.reduceMod, Nat.reduceDiv, Int.reduceLE, Int.reduceLT, Int.reduceToNat, Int.reduceAdd, Int.reduceSub, Int.reduceMul, Int.reduceEq, Int.reduceNeg, BitVec.reduceOfInt, BitVec.reduceToNat, BitVec.reduceEq, BitVec.reduceNe, BitVec.reduceLT, reduceCtorEq, List.forall_mem_nil, hg1]
    refine Weak.drop ?_ rfl (fun _ _ h => h)
    simp [St.get, lookS]
  · exact fun pre H h => h.2.2.2
  · intro j hj; show j < A.length + 2; omega
  · intro pre H h
    obtain ⟨s1, s2⟩ := dropAll_same p pre (many, A)
    refine ⟨_, _, h.1, s1, fun i nd hi hn => ?_⟩
    rw [getD_of (s2 i nd hi hn)]
  · intro pre a n' i H hJ hm hi ha0 ha1 hn0 hn1 his hni
    obtain ⟨hT, hb1, hb2, hrw⟩ := hJ
    have hsame := (dropAll_same p pre (many, A)).1
    have hone : dropAll p (many, A) (pre ++ [(a, n', i)]) = dropN p (dropAll p (many, A) pre) i := by unfold dropAll; rw [List.foldl_append]; rfl
    unfold dJP
    rw [hone]
    generalize dropAll p (many, A) pre = x at *
    obtain ⟨mm, B⟩ := x
    simp only at hT hsame
    have hiB : i < B.length := by rw [hsame.1]; exact hi
    obtain ⟨nd, hnd'⟩ : ∃ nd, B[i]? = some nd := ⟨B[i], List.getElem?_eq_getElem hiB⟩
    have hget := hT.here i nd hnd'
    rw [show id i = i from rfl] at hget
    unfold ndB at hget
    have hgd := getD_of hnd'
    refine go_start ?_
    simp -implicitDefEqProofs only [go_sem, ↓reduceIte, Nat.reduceEqDiff, Nat.reduceLT, Nat.reduceLeDiff, Nat.reduceAdd, Nat.reduceSub, Nat.reduceMul, Nat.reduceMod, Nat.reduceDiv, Int.reduceLE, Int.reduceLT, Int.reduceToNat, Int.reduceAdd, Int.reduceSub, Int.reduceMul, Int.reduceEq, Int.reduceNeg, BitVec.reduceOfInt, BitVec.reduceToNat, BitVec.reduceEq, BitVec.reduceNe, BitVec.reduceLT, reduceCtorEq, List.forall_mem_nil, id_eq]
    refine ⟨hrw, go_start ?_⟩
    by_cases hp : nd.owner = p
    · have hT1 := hT.put (many' := mm) hiB ⟨nd.k0, nd.k1, false, nd.owner⟩ (hT.closed.2 i nd hnd') (.inr rfl)
      rw [show id i = i from rfl] at hT1
      unfold ndB at hT1
      obtain ⟨r1, hr1⟩ : ∃ r, (B.set i ⟨nd.k0, nd.k1, false, nd.owner⟩)[0]? = some r := ⟨(B.set i ⟨nd.k0, nd.k1, false, nd.owner⟩)[0]'hT1.closed.1, List.getElem?_eq_getElem _⟩
      have hg3 : getH _ 0 = some ⟨false, [kidV id r1.k0, kidV id r1.k1, .bool r1.is, .i64 r1.owner, .i64 mm], none⟩ := hT1.here 0 r1 hr1
      have hT2 := hT1.put (many' := w64 (mm - 1)) hT1.closed.1 r1 (hT1.closed.2 0 r1 hr1) (.inl rfl)
      rw [show (B.set i ⟨nd.k0, nd.k1, false, nd.owner⟩).set 0 r1 = B.set i ⟨nd.k0, nd.k1, false, nd.owner⟩ from by rw [← Option.some.inj ((List.getElem?_eq_getElem hT1.closed.1).symm.trans hr1)]; exact List.set_getElem_self _] at hT2
      have hdr : dropN p (mm, B) i = (w64 (mm - 1), B.set i ⟨nd.k0, nd.k1, false, nd.owner⟩) := by
        unfold dropN
        simp only [hgd]
        rw [if_pos hp]
      rw [hdr]
      have hbA : getH (H.set i (some ⟨false, kidV id nd.k0 :: kidV id nd.k1 :: .bool false :: .i64 nd.owner :: tlC mm i, none⟩)) A.length = some ⟨false, [.ptr 0 0], none⟩ := by rw [getH_set_ne (by omega)]; exact hb1
      have hp' : (nd.owner = p) = True := eq_true hp
      simp -implicitDefEqProofs only [go_sem, ↓reduceIte, Nat.reduceEqDiff, Nat.reduceLT, Nat.reduceLeDiff, Nat.reduceAdd, Nat.reduceSub, Nat.reduceMul, Nat.reduceMod, Nat.reduceDiv, Int.reduceLE, Int.reduceLT, Int.reduceToNat, Int.reduceAdd, Int.reduceSub, Int.reduceMul, Int.reduceEq, Int.reduceNeg, BitVec.reduceOfInt, BitVec.reduceToNat, BitVec.reduceEq, BitVec.reduceNe, BitVec.reduceLT, reduceCtorEq, List.forall_mem_nil, hget, hb2, hp', hbA, hg3]
      have hAp := hA.1
      refine ⟨by omega, by kernel_rfl, hT2, ?_, ?_, ?_⟩
      · rw [getH_set_ne (by omega)]; exact hbA
      · rw [getH_set_ne (by omega), getH_set_ne (by omega)]; exact hb2
      · exact rw_set (rw_set hrw (fun B h => by cases h; rfl) i) (fun B h => by cases h; rfl) 0
    · have hdr : dropN p (mm, B) i = (mm, B) := by
        unfold dropN
        simp only [hgd]
        rw [if_neg hp]
      rw [hdr]
      simp -implicitDefEqProofs only [go_sem, ↓reduceIte, Nat.reduceEqDiff, Nat.reduceLT, Nat.reduceLeDiff, Nat.reduceAdd, Nat.reduceSub, Nat.reduceMul, Nat.reduceMod, Nat.reduceDiv, Int.reduceLE, Int.reduceLT, Int.reduceToNat, Int.reduceAdd, Int.reduceSub, Int.reduceMul, Int.reduceEq, Int.reduceNeg, BitVec.reduceOfInt, BitVec.reduceToNat, BitVec.reduceEq, BitVec.reduceNe, BitVec.reduceLT, reduceCtorEq, List.forall_mem_nil, hget, hb2, hp]
      exact ⟨by omega, by kernel_rfl, hT, hb1, hrw⟩
  · rfl
  · simp [St.get, lookS, V.low]
  · refine ⟨hT0, hg1, hg2, ?_⟩
    have : treeB many A ++ [some (⟨false, [.ptr 0 0], none⟩ : Blk), some ⟨false, [.i64 p], none⟩] = (treeB many A ++ [some (⟨false, [.ptr 0 0], none⟩ : Blk)]) ++ [some ⟨false, [.i64 p], none⟩] := by simp
    rw [this]
    exact rw_app (rw_app (treeB_rw many A) (fun B h => by cases h; rfl)) (fun B h => by cases h; rfl)
  · intro H hJ hm
    obtain ⟨hT, hb1, hb2, hrw⟩ := hJ
    have hsame := (dropAll_same p (walkL (fun i => (A.getD i leaf).is) (.node 0 tl tr) 0 0) (many, A)).1
    rw [hR] at hT hsame
    obtain ⟨mm, B⟩ := R
    simp only at hT hsame ⊢
    obtain ⟨r', hr'⟩ : ∃ r, B[0]? = some r := ⟨B[0]'(by rw [hsame.1]; exact hA.1), List.getElem?_eq_getElem _⟩
    have hg3 : getH H 0 = some ⟨false, [kidV id r'.k0, kidV id r'.k1, .bool r'.is, .i64 r'.owner, .i64 mm], none⟩ := hT.here 0 r' hr'
    refine go_start ?_
    simp -implicitDefEqProofs only [go_sem, ↓reduceIte, Nat.reduceEqDiff, Nat.reduceLT, Nat.reduceLeDiff, Nat.reduceAdd, Nat.reduceSub, Nat.reduceMul, Nat.reduceMod, Nat.reduceDiv, Int.reduceLE, Int.reduceLT, Int.reduceToNat, Int.reduceAdd, Int.reduceSub, Int.reduceMul, Int.reduceEq, Int.reduceNeg, BitVec.reduceOfInt, BitVec.reduceToNat, BitVec.reduceEq, BitVec.reduceNe, BitVec.reduceLT, reduceCtorEq, List.forall_mem_nil, hb1, hg3, treeB_length]
    exact ⟨hrw, Fin.tree hT (by rw [hsame.1]; exact Nat.le_refl _) (fun _ _ => rfl) ⟨rfl, trivial⟩⟩
end Go.Vm
end
section
namespace Go.Vm
def subs (cl : Nat → Nat) : List (List Nat × List Nat) → List (List Nat × List Nat) → Prop
  | [], [] => True
  | x :: l, y :: l' => ((∀ b ∈ x.1, cl b ∈ y.1) ∧ (∀ b ∈ x.2, cl b ∈ y.2)) ∧ subs cl l l'
  | _, _ => False
theorem subs_get {cl : Nat → Nat} : ∀ {l l' : List (List Nat × List Nat)}, subs cl l l' → ∀ (i : Nat) x, l[i]? = some x → ∃ y, l'[i]? = some y ∧ (∀ b ∈ x.1, cl b ∈ y.1) ∧ (∀ b ∈ x.2, cl b ∈ y.2)
  | [], [], _, i, x, h => by simp at h
  | x :: l, y :: l', h, 0, z, hz => by simp at hz; subst hz; exact ⟨y, rfl, h.1⟩
  | x :: l, y :: l', h, i + 1, z, hz => by simpa using subs_get h.2 i z (by simpa using hz)
  | [], _ :: _, h, _, _, _ => h.elim
  | _ :: _, [], h, _, _, _ => h.elim
theorem meets_cls {cl : Nat → Nat} {a b a' b' : List Nat} (ha : ∀ x ∈ a, cl x ∈ a') (hb : ∀ x ∈ b, cl x ∈ b') (h : meets a' b' = false) : meets a b = false := by
  unfold meets at *
  rw [List.any_eq_false] at h ⊢
  intro x hx hc
  refine h (cl x) (ha x hx) ?_
  rw [List.contains_iff_mem] at hc ⊢
  exact hb x hc
theorem apartE_cls {ops : Array Oper} {o o' : Oper} {cl : Nat → Nat} {e e' f f' : List Nat × List Nat} (h1 : ∀ b ∈ e.1, cl b ∈ f.1) (h2 : ∀ b ∈ e.2, cl b ∈ f.2) (h3 : ∀ b ∈ e'.1, cl b ∈ f'.1) (h4 : ∀ b ∈ e'.2, cl b ∈ f'.2)
    (h : apartE ops o o' f f' = true) : apartE ops o o' e e' = true := by
  unfold apartE at *
  simp only [Bool.and_eq_true, Bool.not_eq_true'] at h ⊢
  obtain ⟨⟨⟨a1, a2⟩, a3⟩, a4⟩ := h
  refine ⟨⟨⟨a1, a2⟩, meets_cls h2 (fun x hx => ?_) a3⟩, meets_cls h4 (fun x hx => ?_) a4⟩
  · rcases List.mem_append.1 hx with h | h
    · exact List.mem_append.2 (.inl (h3 x h))
    · exact List.mem_append.2 (.inr (h4 x h))
  · rcases List.mem_append.1 hx with h | h
    · exact List.mem_append.2 (.inl (h1 x h))
    · exact List.mem_append.2 (.inr (h2 x h))
theorem ordOk_cls {ops : Array Oper} {tr : List (List Nat × List Nat)} (cl : Nat → Nat) (tr' : List (List Nat × List Nat)) (h : ordOk ops tr' = true) (hs : subs cl tr tr') : ordOk ops tr = true := by
  unfold ordOk at *
  simp only [List.all_eq_true] at h ⊢
  have up : ∀ (x : Oper × (List Nat × List Nat)) (j : Nat), (x, j) ∈ (ops.toList.zip tr).zipIdx → ∃ y, (∀ b ∈ x.2.1, cl b ∈ y.1) ∧ (∀ b ∈ x.2.2, cl b ∈ y.2) ∧ ((x.1, y), j) ∈ (ops.toList.zip tr').zipIdx := fun x j hx => by
    rw [List.mem_zipIdx_iff_getElem?] at hx
    simp only at hx
    rw [List.getElem?_zip_eq_some] at hx
    obtain ⟨h1, h2⟩ := hx
    obtain ⟨y, g1, g2, g3⟩ := subs_get hs j x.2 h2
    refine ⟨y, g2, g3, ?_⟩
    rw [List.mem_zipIdx_iff_getElem?]
    simp only
    rw [List.getElem?_zip_eq_some]
    exact ⟨h1, g1⟩
  rintro ⟨x, j⟩ hx
  obtain ⟨y, a1, a2, a3⟩ := up x j hx
  have hj := h _ a3
  simp only [Bool.and_eq_true] at hj ⊢
  refine ⟨hj.1, ?_⟩
  have hj2 := hj.2
  rw [List.all_eq_true] at hj2 ⊢
  rintro ⟨z, i⟩ hz
  obtain ⟨u, b1, b2, b3⟩ := up z i hz
  have hi := hj2 _ b3
  simp only [Bool.or_eq_true] at hi ⊢
  rcases hi with hi | hi
  · exact .inl hi
  · exact .inr (apartE_cls b1 b2 a1 a2 hi)
end Go.Vm
end
section
-- NIDP
namespace Go.Vm
open Go.Proofs
set_option maxRecDepth 20000
def toPe (A : List Nd) (e : Int × Int × Nat) : Pe := (BitVec.ofInt 32 e.1, e.2.1.toNat, (A.getD e.2.2 leaf).owner)
def aJP (many : Int) (A : List Nd) (pre : List (Int × Int × Nat)) (H : List (Option Blk)) : Prop :=
  TreeAt id many A H ∧ (∃ sv, getH H A.length = some ⟨false, [sv], none⟩ ∧ ((pre = [] ∧ sv = .nilSlice) ∨ (pre ≠ [] ∧ ∃ b, sv = .slice b 0 pre.length 3 ∧ A.length < b ∧ getH H b = some ⟨false, pesC (pre.map (toPe A)), none⟩))) ∧ (∀ b B, getH H b = some B → B.ro = false) ∧
    (pre.map (·.2.2)).Nodup ∧ ∀ i ∈ pre.map (·.2.2), i < A.length ∧ (A.getD i leaf).is = true
theorem len_le {L : List Nat} : ∀ {l : List Nat}, l.Nodup → (∀ x ∈ l, x ∈ L) → l.length ≤ L.length := by
  induction L with
  | nil => intro l _ h; cases l with
    | nil => simp
    | cons x l => exact absurd (h x (by simp)) (by simp)
  | cons y L ih =>
    intro l hn h
    by_cases hy : y ∈ l
    · have h1 := ih (l := l.erase y) (hn.erase y) fun x hx => by
        have hxl := List.mem_of_mem_erase hx
        rcases List.mem_cons.1 (h x hxl) with e | h2
        · exact absurd (e ▸ hx) (by rw [List.Nodup.mem_erase_iff hn]; simp)
        · exact h2
      rw [List.length_erase_of_mem hy] at h1
      simp; omega
    · have h1 := ih hn fun x hx => by
        rcases List.mem_cons.1 (h x hx) with e | h2
        · exact absurd (e ▸ hx) hy
        · exact h2
      simp; omega
theorem Fin.tree1 {many : Int} {A : List Nd} {s : St} {b len : Nat} {L : List Pe} (h : TreeAt id many A s.H) (hb : getH s.H b = some ⟨false, pesC L, none⟩) (hA : A.length < b) : Fin A.length (.slice A.length 0 len 3) (treeB many A ++ [some ⟨false, pesC L, none⟩]) (.slice b 0 len 3) s := by
  have s1 : ∀ j, j < A.length → sgOf (sgT id A.length ++ [b]) j = j := fun j hj => by rw [sgOf_app_lt (by rw [sgT_length]; exact hj), sgT_get id hj]; rfl
  have s2 : sgOf (sgT id A.length ++ [b]) A.length = b := by
    unfold sgOf
    rw [List.getD_eq_getElem?_getD, List.getElem?_append_right (by rw [sgT_length]; exact Nat.le_refl _), sgT_length]; simp
  have hnd : (sgT id A.length ++ [b]).Nodup := by
    rw [List.nodup_append]
    refine ⟨h.sgNodup, by simp, fun x hx y hy => ?_⟩
    have hy : y = b := by simpa using hy
    unfold sgT at hx
    obtain ⟨j, hj, rfl⟩ := List.mem_map.1 hx
    have : j < A.length := by simpa using hj
    rw [hy]; show j ≠ b; omega
  refine Fin.ren (sgT id A.length ++ [b]) (by simp [sgT_length, treeB_length]) (by simp [sgT_length]) ?_ hnd ⟨?_, ?_⟩ ?_
  · refine List.ext_getElem? fun i => ?_
    rw [List.getElem?_take]
    by_cases hi : i < A.length
    · rw [if_pos hi, List.getElem?_append_left (by rw [sgT_length]; exact hi), List.getElem?_range hi]
      unfold sgT
      rw [List.getElem?_map, List.getElem?_range hi]; rfl
    · rw [if_neg hi, List.getElem?_eq_none (by simp; omega)]
  · show V.slice (sgOf _ A.length) 0 len 3 = _
    rw [s2]
  · show A.length < _
    simp [treeB_length]
  · refine blksOk_of fun c B e => ?_
    rw [Nat.zero_add]
    by_cases hc : c < A.length
    · rw [getH_app (by rw [treeB_length]; exact hc), treeB_get, List.getElem?_eq_getElem hc] at e
      cases e
      have hnd0 := List.getElem?_eq_getElem hc
      obtain ⟨c0, c1⟩ := h.closed.2 c _ hnd0
      rw [s1 c hc]
      have := h.here c _ hnd0
      rw [show id c = c from rfl] at this
      rw [this]
      refine ⟨?_, ndB_lows (by simp [treeB_length]; omega) (by simp [treeB_length]; omega)⟩
      rw [ndB_ren (pos := id) (fun _ => s1 _ c0) (fun _ => s1 _ c1)]
    · have hl := getH_lt e
      simp [treeB_length] at hl
      have hcA : c = A.length := by omega
      subst hcA
      have := getH_new (treeB many A) (some (⟨false, pesC L, none⟩ : Blk)) []
      rw [treeB_length] at this
      rw [this] at e
      cases e
      rw [s2, hb]
      refine ⟨?_, pesC_lows _ _⟩
      simp only [pesC_rens]
/-- How many are there. -/
def cntA (A : List Nd) : Nat := ((List.range A.length).filter fun i => (A.getD i leaf).is).length
set_option maxHeartbeats 4000000 in
theorem All_spec (many : Int) (A : List Nd) (tl tr : Sh) (hA : Closed A) (hc : cntA A ≤ 64) (hsh : ShIn A (.node 0 tl tr)) (hids : ∀ i ∈ (Sh.node 0 tl tr).ids, i < A.length) (hnd : (Sh.node 0 tl tr).ids.Nodup) (hh : (Sh.node 0 tl tr).hgt ≤ 33) (M : List (Int × Int × Nat)) (hM : walkL (fun i => (A.getD i leaf).is) (.node 0 tl tr) 0 0 = M) :
    (M = [] ∧ Spec0 Try.prog 19 [.ptr 0 0] (treeB many A) .nilSlice (treeB many A)) ∨
    (M ≠ [] ∧ Spec0 Try.prog 19 [.ptr 0 0] (treeB many A) (.slice A.length 0 M.length 3) (treeB many A ++ [some ⟨false, pesC (M.map (toPe A)), none⟩])) := by
  have hg1 : getH (treeB many A ++ [some (⟨false, [.nilSlice], none⟩ : Blk)]) A.length = some ⟨false, [.nilSlice], none⟩ := by
    rw [← treeB_length many A]; exact getH_new _ _ _
  have hT0 : TreeAt id many A (treeB many A ++ [some (⟨false, [.nilSlice], none⟩ : Blk)]) := (TreeAt.init hA).app _
  have key : ∀ (v : V) (h' : List (Option Blk)), (∀ (c r0 r1 r2 : Code), Try.f19.body = some (.seq r0 (.seq r1 (.seq r2 c))) → ∀ H, aJP many A M H → A.length + 1 ≤ H.length → vc Try.prog (A.length + 1) 20 c (retQ Try.prog Try.f19 fun v' s' => (∀ b B, getH s'.H b = some B → B.ro = false) ∧ Fin (treeB many A).length v h' v' s') ⟨[(3, .ptr A.length 0)], H⟩) →
      Spec0 Try.prog 19 [.ptr 0 0] (treeB many A) v h' := fun v h' htail => by
    refine spec0_range (by kernel_rfl) (fn := Try.f19) Try.func19 rfl (by show 1 ≤ 20; decide) (by kernel_rfl) (by show 8 < 20; decide) (by show 9 < 20; decide) (by kernel_rfl) (by kernel_rfl)
      (S3 := ⟨[(3, .ptr A.length 0), (7, .fn 24 [.ptr 0 0] [])], treeB many A ++ [some (⟨false, [.nilSlice], none⟩ : Blk)]⟩) (t0 := [(3, .ptr A.length 0)]) (m := A.length + 1) ?_ (by rw [treeB_length]; omega) (by simp [treeB_length]) A tl tr (fun i => (A.getD i leaf).is) (aJP many A) id ?_ ?_ ?_ ?_ ?_ ?_ hsh hids hnd hh ?_ ?_
    · refine go_start ?_
      simp -implicitDefEqProofs only [go_sem, ↓reduceIte, Nat.reduceEqDiff, Nat.reduceLT, Nat.reduceLeDiff, Nat.reduceAdd, Nat.reduceSub, Nat.reduceMul, Nat.reduceMod, Nat.reduceDiv, Int.reduceLE, Int.reduceLT, Int.reduceToNat, Int.reduceAdd, Int.reduceSub, Int.reduceMul, Int.reduceEq, Int.reduceNeg, BitVec.reduceOfInt, BitVec.reduceToNat, BitVec.reduceEq, BitVec.reduceNe, BitVec.reduceLT, reduceCtorEq, List.forall_mem_nil, treeB_length]
      refine go_start ?_
      simp -implicitDefEqProofs only [go_sem, ↓reduceIte, Nat.reduceEqDiff, Nat.reduceLT, Nat.reduceLeDiff, Nat.reduceAdd, Nat.reduceSub, Nat.reduceMul, Nat.reduceMod, Nat.reduceDiv, Int.reduceLE, Int.reduceLT, Int.reduceToNat, Int.reduceAdd, Int.reduceSub, Int.reduceMul, Int.reduceEq, Int.reduceNeg, BitVec.reduceOfInt, BitVec.reduceToNat, BitVec.reduceEq, BitVec.reduceNe, BitVec.reduceLT, reduceCtorEq, List.forall_mem_nil, treeB_length]
      refine go_start ?_
      simp -implicitDefEqProofs only [go_sem, ↓reduceIte, Nat.reduceEqDiff, Nat.reduceLT, Nat.reduceLeDiff, Nat.reduceAdd, Nat.reduceSub, Nat.reduceMul, Nat.reduceMod, Nat.reduceDiv, Int.reduceLE, Int.reduceLT, Int.reduceToNat, Int.reduceAdd, Int.reduceSub, Int.reduceMul, Int.reduceEq, Int.reduceNeg, BitVec.reduceOfInt, BitVec.reduceToNat, BitVec.reduceEq, BitVec.reduceNe, BitVec.reduceLT, reduceCtorEq, List.forall_mem_nil]
      refine Weak.drop ?_ rfl (fun _ _ h => h)
      simp [St.get, lookS]
    · exact fun pre H h => h.2.2.1
    · intro j hj; show j < A.length + 1; omega
    · intro pre H h
      exact ⟨many, A, h.1, SameK.refl A, fun i nd hi hn => by rw [getD_of hi]⟩
    · intro pre a n' i H hJ hm hi ha0 ha1 hn0' hn1 his hni
      obtain ⟨hT, ⟨sv, hb1, hsv⟩, hrw, hpn, hpi⟩ := hJ
      obtain ⟨nd, hnd'⟩ : ∃ nd, A[i]? = some nd := ⟨A[i], List.getElem?_eq_getElem hi⟩
      have hget := hT.here i nd hnd'
      rw [show id i = i from rfl] at hget
      unfold ndB at hget
      have hgd := getD_of hnd'
      have hlen : pre.length ≤ 64 := by
        have := len_le (L := (List.range A.length).filter fun i => (A.getD i leaf).is) hpn fun x hx => by
          rw [List.mem_filter, List.mem_range]
          exact hpi x hx
        rw [List.length_map] at this
        unfold cntA at hc
        omega
      have hHl := getH_lt hb1
      have hn0 := getH_new H (some (⟨false, [.u32 0#32, .i64 0], none⟩ : Blk)) []
      have hst0 : (H ++ [some (⟨false, [.u32 0#32, .i64 0], none⟩ : Blk)]).set H.length (some ⟨false, [.u32 (BitVec.ofInt 32 a), .i64 n'], none⟩) = H ++ [some ⟨false, [.u32 (BitVec.ofInt 32 a), .i64 n'], none⟩] := by simp
      have hn1' := getH_new H (some (⟨false, [.u32 (BitVec.ofInt 32 a), .i64 n'], none⟩ : Blk)) []
      have hb1' := (getH_app hHl [some (⟨false, [.u32 (BitVec.ofInt 32 a), .i64 n'], none⟩ : Blk)]).trans hb1
      have hget' := (getH_app (getH_lt hget) [some (⟨false, [.u32 (BitVec.ofInt 32 a), .i64 n'], none⟩ : Blk)]).trans hget
      refine go_start ?_
      simp -implicitDefEqProofs only [go_sem, ↓reduceIte, Nat.reduceEqDiff, Nat.reduceLT, Nat.reduceLeDiff, Nat.reduceAdd, Nat.reduceSub, Nat.reduceMul, Nat.reduceMod, Nat.reduceDiv, Int.reduceLE, Int.reduceLT, Int.reduceToNat, Int.reduceAdd, Int.reduceSub, Int.reduceMul, Int.reduceEq, Int.reduceNeg, BitVec.reduceOfInt, BitVec.reduceToNat, BitVec.reduceEq, BitVec.reduceNe, BitVec.reduceLT, reduceCtorEq, List.forall_mem_nil, id_eq, hn0, hst0]
      refine ⟨rw_app hrw (fun B h => by cases h; rfl), go_start ?_⟩
      have hy1 : getH (H ++ [some (⟨false, [.u32 (BitVec.ofInt 32 a), .i64 n'], none⟩ : Blk)] ++ [some (⟨false, [.u32 (BitVec.ofInt 32 a), .i64 n', .i64 nd.owner], none⟩ : Blk)]) (H.length + 1) = some ⟨false, [.u32 (BitVec.ofInt 32 a), .i64 n', .i64 nd.owner], none⟩ := by
        have := getH_new (H ++ [some (⟨false, [.u32 (BitVec.ofInt 32 a), .i64 n'], none⟩ : Blk)]) (some (⟨false, [.u32 (BitVec.ofInt 32 a), .i64 n', .i64 nd.owner], none⟩ : Blk)) []
        rwa [List.length_append] at this
      rcases hsv with ⟨rfl, rfl⟩ | ⟨hne, b, rfl, hbA, hbb⟩
      · have hb2' : getH (H ++ [some (⟨false, [.u32 (BitVec.ofInt 32 a), .i64 n'], none⟩ : Blk)] ++ [some (⟨false, [.u32 (BitVec.ofInt 32 a), .i64 n', .i64 nd.owner], none⟩ : Blk)] ++ [some (⟨false, [.u32 (BitVec.ofInt 32 a), .i64 n', .i64 nd.owner], none⟩ : Blk)]) A.length = some ⟨false, [.nilSlice], none⟩ := by
          rw [getH_app (by simp; omega), getH_app (by simp; omega), getH_app hHl]; exact hb1
        simp -implicitDefEqProofs only [go_sem, ↓reduceIte, Nat.reduceEqDiff, Nat.reduceLT, Nat.reduceLeDiff, Nat.reduceAdd, Nat.reduceSub, Nat.reduceMul, Nat.reduceMod, Nat.reduceDiv, Int.reduceLE, Int.reduceLT, Int.reduceToNat, Int.reduceAdd, Int.reduceSub, Int.reduceMul, Int.reduceEq, Int.reduceNeg, BitVec.reduceOfInt, BitVec.reduceToNat, BitVec.reduceEq, BitVec.reduceNe, BitVec.reduceLT, reduceCtorEq, List.forall_mem_nil, hget', hb1', hn1', hy1, hb2']
        have hpe : peC (toPe A (a, n', i)) = [.u32 (BitVec.ofInt 32 a), .i64 n', .i64 nd.owner] := by
          unfold peC toPe
          simp only [hgd]
          rw [Int.toNat_of_nonneg hn0']
        refine ⟨by omega, by omega, ordOk_cls (fun k => if k = A.length then 0 else if k = i then 1 else if k = H.length then 2 else if k = H.length + 1 then 3 else if k = H.length + 1 + 1 then 4 else 5) [([0], []), ([2], []), ([], []), ([], []), ([], []), ([1], []), ([], []), ([], [3]), ([3], [4]), ([0], [0])] (by kernel_rfl) (by
          have e1 : ¬ i = A.length := by omega
          have e2 : ¬ H.length = A.length := by omega
          have e3 : ¬ H.length = i := by omega
          have e4 : ¬ H.length + 1 = A.length := by omega
          have e5 : ¬ H.length + 1 = i := by omega
          have e6 : ¬ H.length + 1 + 1 = A.length := by omega
          have e7 : ¬ H.length + 1 + 1 = i := by omega
          have e8 : ¬ H.length + 1 = H.length := by omega
          have e9 : ¬ H.length + 1 + 1 = H.length := by omega
          have e10 : ¬ H.length + 1 + 1 = H.length + 1 := by omega
          simp [subs, e1, e2, e3, e4, e5, e6, e7, e8, e9, e10]), ?_⟩
        refine ⟨(((hT.app [some (⟨false, [.u32 (BitVec.ofInt 32 a), .i64 n'], none⟩ : Blk)]).app [some (⟨false, [.u32 (BitVec.ofInt 32 a), .i64 n', .i64 nd.owner], none⟩ : Blk)]).app [some (⟨false, [.u32 (BitVec.ofInt 32 a), .i64 n', .i64 nd.owner], none⟩ : Blk)]).other (fun j hj => Nat.ne_of_lt hj) _, ⟨_, getH_set_same (by simp; omega) _, .inr ⟨by simp, H.length + 1 + 1, rfl, by omega, ?_⟩⟩, rw_set (rw_app (rw_app (rw_app hrw (fun B h => by cases h; rfl)) (fun B h => by cases h; rfl)) (fun B h => by cases h; rfl)) (fun B h => by cases h; rfl) _, by simp, fun x hx => ?_⟩
        · rw [getH_set_ne (by omega)]
          have := getH_new (H ++ [some (⟨false, [.u32 (BitVec.ofInt 32 a), .i64 n'], none⟩ : Blk)] ++ [some (⟨false, [.u32 (BitVec.ofInt 32 a), .i64 n', .i64 nd.owner], none⟩ : Blk)]) (some (⟨false, [.u32 (BitVec.ofInt 32 a), .i64 n', .i64 nd.owner], none⟩ : Blk)) []
          rw [List.length_append, List.length_append] at this
          simp only [List.length_cons, List.length_nil] at this
          rw [this]
          simp only [List.map_cons, List.map_nil, pesC_cons, pesC_nil, hpe, List.append_nil]
        · have hx : x = i := by simpa using hx
          rw [hx]; exact ⟨hi, his⟩
      · have hbl := getH_lt hbb
        have hb2' : getH ((H ++ [some (⟨false, [.u32 (BitVec.ofInt 32 a), .i64 n'], none⟩ : Blk)] ++ [some (⟨false, [.u32 (BitVec.ofInt 32 a), .i64 n', .i64 nd.owner], none⟩ : Blk)])) b = some ⟨false, pesC (pre.map (toPe A)), none⟩ := by
          rw [getH_app (by simp; omega), getH_app hbl]; exact hbb
        have hb3' : getH ((H ++ [some (⟨false, [.u32 (BitVec.ofInt 32 a), .i64 n'], none⟩ : Blk)] ++ [some (⟨false, [.u32 (BitVec.ofInt 32 a), .i64 n', .i64 nd.owner], none⟩ : Blk)]).set b none ++ [some ⟨false, pesC (pre.map (toPe A)) ++ [.u32 (BitVec.ofInt 32 a), .i64 n', .i64 nd.owner], none⟩]) A.length = some ⟨false, [.slice b 0 pre.length 3], none⟩ := by
          rw [getH_app (by simp; omega), getH_set_ne (by omega), getH_app (by simp; omega), getH_app hHl]; exact hb1
        have htk : (pesC (pre.map (toPe A))).take (pre.length * 3) = pesC (pre.map (toPe A)) := List.take_of_length_le (by rw [pesC_length, List.length_map]; omega)
        simp -implicitDefEqProofs only [go_sem, ↓reduceIte, Nat.reduceEqDiff, Nat.reduceLT, Nat.reduceLeDiff, Nat.reduceAdd, Nat.reduceSub, Nat.reduceMul, Nat.reduceMod, Nat.reduceDiv, Int.reduceLE, Int.reduceLT, Int.reduceToNat, Int.reduceAdd, Int.reduceSub, Int.reduceMul, Int.reduceEq, Int.reduceNeg, BitVec.reduceOfInt, BitVec.reduceToNat, BitVec.reduceEq, BitVec.reduceNe, BitVec.reduceLT, reduceCtorEq, List.forall_mem_nil, hget', hb1', hn1', hy1, hb2', htk, hb3']
        have hpe : peC (toPe A (a, n', i)) = [.u32 (BitVec.ofInt 32 a), .i64 n', .i64 nd.owner] := by
          unfold peC toPe
          simp only [hgd]
          rw [Int.toNat_of_nonneg hn0']
        have hpl : (pesC (pre.map (toPe A))).length = pre.length * 3 := by rw [pesC_length, List.length_map]
        refine ⟨by omega, ⟨by omega, by omega, by omega⟩, by omega, by omega, ordOk_cls (fun k => if k = A.length then 0 else if k = i then 1 else if k = H.length then 2 else if k = H.length + 1 then 3 else if k = H.length + 1 + 1 then 4 else 5) [([0], []), ([2], []), ([], []), ([], []), ([], []), ([1], []), ([], []), ([], [3]), ([5, 3], [5, 4]), ([0], [0])] (by kernel_rfl) (by
          have e1 : ¬ i = A.length := by omega
          have e2 : ¬ H.length = A.length := by omega
          have e3 : ¬ H.length = i := by omega
          have e4 : ¬ H.length + 1 = A.length := by omega
          have e5 : ¬ H.length + 1 = i := by omega
          have e6 : ¬ H.length + 1 + 1 = A.length := by omega
          have e7 : ¬ H.length + 1 + 1 = i := by omega
          have e8 : ¬ H.length + 1 = H.length := by omega
          have e9 : ¬ H.length + 1 + 1 = H.length := by omega
          have e10 : ¬ H.length + 1 + 1 = H.length + 1 := by omega
          have e11 : ¬ b = A.length := by omega
          have e12 : ¬ b = i := by omega
          have e13 : ¬ b = H.length := by omega
          have e14 : ¬ b = H.length + 1 := by omega
          have e15 : ¬ b = H.length + 1 + 1 := by omega
          simp [subs, e1, e2, e3, e4, e5, e6, e7, e8, e9, e10, e11, e12, e13, e14, e15]), ?_⟩
        refine ⟨((((hT.app [some (⟨false, [.u32 (BitVec.ofInt 32 a), .i64 n'], none⟩ : Blk)]).app [some (⟨false, [.u32 (BitVec.ofInt 32 a), .i64 n', .i64 nd.owner], none⟩ : Blk)]).other (fun j hj => by show j ≠ b; omega) none).app _).other (fun j hj => Nat.ne_of_lt hj) _, ⟨_, getH_set_same (by simp; omega) _, .inr ⟨by simp, H.length + 1 + 1, by simp, by omega, ?_⟩⟩, rw_set (rw_app (rw_set (rw_app (rw_app hrw (fun B h => by cases h; rfl)) (fun B h => by cases h; rfl)) (fun B h => by cases h) _) (fun B h => by cases h; rfl)) (fun B h => by cases h; rfl) _, by
          rw [List.map_append, List.nodup_append]
          refine ⟨hpn, by simp, fun x hx y hy => ?_⟩
          have hy : y = i := by simpa using hy
          rw [hy]; exact fun e => hni (e ▸ hx), fun x hx => by
          rw [List.map_append, List.mem_append] at hx
          rcases hx with hx | hx
          · exact hpi x hx
          · have hx : x = i := by simpa using hx
            rw [hx]; exact ⟨hi, his⟩⟩
        rw [getH_set_ne (by omega)]
        have := getH_new ((H ++ [some (⟨false, [.u32 (BitVec.ofInt 32 a), .i64 n'], none⟩ : Blk)] ++ [some (⟨false, [.u32 (BitVec.ofInt 32 a), .i64 n', .i64 nd.owner], none⟩ : Blk)]).set b none) (some (⟨false, pesC (pre.map (toPe A)) ++ [.u32 (BitVec.ofInt 32 a), .i64 n', .i64 nd.owner], none⟩ : Blk)) []
        rw [List.length_set, List.length_append, List.length_append] at this
        simp only [List.length_cons, List.length_nil] at this
        rw [this, List.map_append, pesC_append]
        simp only [List.map_cons, List.map_nil, pesC_cons, pesC_nil, hpe, List.append_nil]
    · rfl
    · simp [St.get, lookS, V.low]
    · refine ⟨hT0, ⟨_, hg1, .inl ⟨rfl, rfl⟩⟩, rw_app (treeB_rw many A) (fun B h => by cases h; rfl), by simp, fun i hi => by cases hi⟩
    · intro H hJ hm
      rw [hM] at hJ
      exact htail _ _ _ _ rfl H hJ hm
  by_cases hM0 : M = []
  · refine .inl ⟨hM0, key _ _ fun c r0 r1 r2 hc H hJ hm => ?_⟩
    simp only [Try.f19, Option.some.injEq, Code.seq.injEq] at hc
    obtain ⟨-, -, -, rfl⟩ := hc
    obtain ⟨hT, ⟨sv, hb1, hsv⟩, hrw, _⟩ := hJ
    rcases hsv with ⟨_, rfl⟩ | ⟨hne, _⟩
    · refine go_start ?_
      simp -implicitDefEqProofs only [go_sem, ↓reduceIte, Nat.reduceEqDiff, Nat.reduceLT, Nat.reduceLeDiff, Nat.reduceAdd, Nat.reduceSub, Nat.reduceMul, Nat.reduceMod, Nat.reduceDiv, Int.reduceLE, Int.reduceLT, Int.reduceToNat, Int.reduceAdd, Int.reduceSub, Int.reduceMul, Int.reduceEq, Int.reduceNeg, BitVec.reduceOfInt, BitVec.reduceToNat, BitVec.reduceEq, BitVec.reduceNe, BitVec.reduceLT, reduceCtorEq, List.forall_mem_nil, hb1, treeB_length]
      exact ⟨hrw, Fin.tree hT (Nat.le_refl _) (fun _ _ => rfl) ⟨rfl, trivial⟩⟩
    · exact absurd hM0 hne
  · refine .inr ⟨hM0, key _ _ fun c r0 r1 r2 hc H hJ hm => ?_⟩
    simp only [Try.f19, Option.some.injEq, Code.seq.injEq] at hc
    obtain ⟨-, -, -, rfl⟩ := hc
    obtain ⟨hT, ⟨sv, hb1, hsv⟩, hrw, _⟩ := hJ
    rcases hsv with ⟨he, _⟩ | ⟨_, b, rfl, hbA, hbb⟩
    · exact absurd he hM0
    · refine go_start ?_
      simp -implicitDefEqProofs only [go_sem, ↓reduceIte, Nat.reduceEqDiff, Nat.reduceLT, Nat.reduceLeDiff, Nat.reduceAdd, Nat.reduceSub, Nat.reduceMul, Nat.reduceMod, Nat.reduceDiv, Int.reduceLE, Int.reduceLT, Int.reduceToNat, Int.reduceAdd, Int.reduceSub, Int.reduceMul, Int.reduceEq, Int.reduceNeg, BitVec.reduceOfInt, BitVec.reduceToNat, BitVec.reduceEq, BitVec.reduceNe, BitVec.reduceLT, reduceCtorEq, List.forall_mem_nil, hb1, treeB_length]
      exact ⟨hrw, Fin.tree1 hT hbb hbA⟩
end Go.Vm
end
section
namespace Go.Vm
/-- What a path of bits is worth, from bit n on. -/
def val : Nat → List Bool → Nat
  | _, [] => 0
  | n, b :: p => (if b = true then 2 ^ (31 - n) else 0) + val (n + 1) p
theorem val_lt : ∀ (p : List Bool) (n : Nat), n + p.length ≤ 32 → val n p < 2 ^ (32 - n)
  | [], n, _ => Nat.two_pow_pos _
  | b :: p, n, h => by
    have h' : n + (p.length + 1) ≤ 32 := by simpa using h
    have ih := val_lt p (n + 1) (by omega)
    have e : 2 ^ (32 - n) = 2 ^ (31 - n) + 2 ^ (31 - n) := by
      rw [show 32 - n = (31 - n) + 1 by omega, Nat.pow_succ]; omega
    rw [show 32 - (n + 1) = 31 - n by omega] at ih
    unfold val
    split <;> omega
theorem val_dvd : ∀ (p : List Bool) (n : Nat), n + p.length ≤ 32 → 2 ^ (32 - (n + p.length)) ∣ val n p
  | [], n, _ => ⟨0, rfl⟩
  | b :: p, n, h => by
    have h' : n + (p.length + 1) ≤ 32 := by simpa using h
    have ih := val_dvd p (n + 1) (by omega)
    rw [show n + (b :: p).length = n + 1 + p.length by simp; omega]
    unfold val
    refine Nat.dvd_add ?_ ih
    split
    · exact Nat.pow_dvd_pow _ (by omega)
    · exact Nat.dvd_zero _
theorem val_snoc : ∀ (p : List Bool) (n : Nat) (b : Bool), val n (p ++ [b]) = val n p + if b = true then 2 ^ (31 - (n + p.length)) else 0
  | [], n, b => by simp [val]
  | x :: p, n, b => by
    rw [List.cons_append]
    unfold val
    rw [val_snoc p (n + 1) b, show n + 1 + p.length = n + (x :: p).length by simp; omega]
    omega
theorem bitA_eq (a : BitVec 32) (i : Nat) : bitA a i = decide (a.toNat / 2 ^ (31 - i) % 2 = 1) := by
  unfold bitA
  rw [← BitVec.testBit_toNat, Nat.testBit_eq_decide_div_mod_eq]
/-- A number that begins like a path has that path. -/
theorem path_of : ∀ (k : Nat) (p : List Bool) (a : BitVec 32) (r : Nat), p.length = k → k ≤ 32 → a.toNat = val 0 p + r → r < 2 ^ (32 - k) → pathA a k = p
  | 0, p, a, r, hk, _, _, _ => by
    have : p = [] := List.eq_nil_of_length_eq_zero hk
    subst this; rfl
  | k + 1, p, a, r, hk, hk32, ha, hr => by
    rcases List.eq_nil_or_concat p with rfl | ⟨q, b, rfl⟩
    · cases hk
    rw [List.concat_eq_append] at *
    have hq : q.length = k := by simpa using hk
    rw [val_snoc, Nat.zero_add, hq] at ha
    have e : 2 ^ (32 - k) = 2 ^ (31 - k) + 2 ^ (31 - k) := by
      rw [show 32 - k = (31 - k) + 1 by omega, Nat.pow_succ]; omega
    rw [show 32 - (k + 1) = 31 - k by omega] at hr
    have ih := path_of k q a ((if b = true then 2 ^ (31 - k) else 0) + r) hq (by omega) (by omega) (by split <;> omega)
    rw [pathA_succ, ih, bitA_eq]
    obtain ⟨d, hd⟩ := val_dvd q 0 (by omega)
    rw [Nat.zero_add, hq] at hd
    have hp : 0 < 2 ^ (31 - k) := Nat.two_pow_pos _
    have hdiv : a.toNat / 2 ^ (31 - k) = 2 * d + if b = true then 1 else 0 := by
      rw [ha, hd, e]
      have : (2 ^ (31 - k) + 2 ^ (31 - k)) * d + (if b = true then 2 ^ (31 - k) else 0) + r = r + 2 ^ (31 - k) * (2 * d + if b = true then 1 else 0) := by
        cases b
        · simp only [Bool.false_eq_true, if_false]
          rw [Nat.add_mul, Nat.add_zero, Nat.add_zero, Nat.mul_comm 2 d, ← Nat.mul_assoc]; omega
        · simp only [if_true]
          rw [Nat.add_mul, Nat.mul_add, Nat.mul_comm 2 d, ← Nat.mul_assoc]; omega
      rw [this, Nat.add_mul_div_left _ _ hp, Nat.div_eq_of_lt hr, Nat.zero_add]
    rw [hdiv]
    congr 2
    cases b <;> simp <;> omega
/-- The top k bits. -/
theorem val_path (a : BitVec 32) : ∀ (k : Nat), k ≤ 32 → val 0 (pathA a k) = a.toNat / 2 ^ (32 - k) * 2 ^ (32 - k)
  | 0, _ => by
    have := a.isLt
    rw [show pathA a 0 = [] from rfl, Nat.div_eq_of_lt (by simpa using this)]; simp [val]
  | k + 1, hk => by
    have ih := val_path a k (by omega)
    rw [pathA_succ, val_snoc, ih, Nat.zero_add, show (pathA a k).length = k by unfold pathA; simp, bitA_eq]
    have e : 2 ^ (32 - k) = 2 ^ (31 - k) * 2 := by
      rw [show 32 - k = (31 - k) + 1 by omega, Nat.pow_succ]
    rw [show 32 - (k + 1) = 31 - k by omega, e, ← Nat.div_div_eq_div_mul]
    generalize hm : a.toNat / 2 ^ (31 - k) = m
    generalize 2 ^ (31 - k) = w
    have hmod := Nat.div_add_mod m 2
    have h2 : m % 2 = 0 ∨ m % 2 = 1 := by omega
    rcases h2 with h2 | h2
    · simp only [h2, Nat.zero_ne_one, decide_false, Bool.false_eq_true, if_false]
      have : m = m / 2 * 2 := by omega
      conv => rhs; rw [this]
      rw [Nat.mul_assoc, Nat.mul_comm 2 w]; omega
    · simp only [h2, decide_true, if_true]
      have : m = m / 2 * 2 + 1 := by omega
      conv => rhs; rw [this]
      rw [Nat.add_mul, Nat.mul_assoc, Nat.mul_comm 2 w]; omega
theorem pathA_length (a : BitVec 32) (k : Nat) : (pathA a k).length = k := by unfold pathA; simp
/-- Two numbers that begin alike. -/
theorem path_eq_iff (a b : BitVec 32) {k : Nat} (hk : k ≤ 32) : pathA a k = pathA b k ↔ a.toNat / 2 ^ (32 - k) = b.toNat / 2 ^ (32 - k) := by
  have hp : 0 < 2 ^ (32 - k) := Nat.two_pow_pos _
  constructor
  · intro h
    have h1 := val_path a k hk
    have h2 := val_path b k hk
    rw [h] at h1
    exact Nat.eq_of_mul_eq_mul_right hp (h1.symm.trans h2)
  · intro h
    refine path_of k _ a (a.toNat % 2 ^ (32 - k)) (pathA_length b k) hk ?_ (Nat.mod_lt _ hp)
    rw [val_path b k hk, ← h, Nat.mul_comm]
    exact (Nat.div_add_mod _ _).symm
theorem hasP_iff (a : BitVec 32) (e : Pe) (hn : e.2.1 ≤ 32) : hasP a e = true ↔ pathA e.1 e.2.1 = pathA a e.2.1 := by
  unfold hasP
  rw [decide_eq_true_iff, path_eq_iff _ _ hn, ← BitVec.toNat_inj]
  have h2 : ∀ x : BitVec 32, (x.setWidth 64 >>> (32 - e.2.1)).toNat = x.toNat / 2 ^ (32 - e.2.1) := fun x => by
    rw [BitVec.toNat_ushiftRight, BitVec.toNat_setWidth, Nat.mod_eq_of_lt (by have := x.isLt; omega), Nat.shiftRight_eq_div_pow]
  rw [h2, h2]
/-- No bits behind the first k. -/
theorem valid_iff (a : BitVec 32) {k : Nat} (hk : k ≤ 32) : a <<< k = 0#32 ↔ val 0 (pathA a k) = a.toNat := by
  rw [val_path a k hk, ← BitVec.toNat_inj, BitVec.toNat_shiftLeft, Nat.shiftLeft_eq]
  have e : 2 ^ 32 = 2 ^ (32 - k) * 2 ^ k := by rw [← Nat.pow_add]; congr 1; omega
  rw [e, Nat.mul_mod_mul_right]
  have hp : 0 < 2 ^ k := Nat.two_pow_pos k
  have hdm := Nat.div_add_mod a.toNat (2 ^ (32 - k))
  rw [Nat.mul_comm] at hdm
  simp only [BitVec.toNat_ofNat, Nat.zero_mod]
  constructor
  · intro h
    rcases Nat.mul_eq_zero.1 h with h | h
    · omega
    · omega
  · intro h
    have : a.toNat % 2 ^ (32 - k) = 0 := by omega
    rw [this, Nat.zero_mul]
end Go.Vm
end
section
namespace Go.Vm
open Go.Proofs
theorem wrapU32 {x : Nat} (h : x < 4294967296) : IntKind.u32.wrap (x : Int) = x := by
  unfold IntKind.wrap
  have e : (2 : Int) ^ IntKind.u32.bits = 4294967296 := by decide
  simp only [e]
  simp [IntKind.signed]
  omega
theorem orBit_eq {x n : Nat} (hx : x < 4294967296) (hn : n ≤ 31) (hd : 2 ^ (32 - n) ∣ x) : orBit (x : Int) ((n : Int) + 1) = ((x + 2 ^ (31 - n) : Nat) : Int) := by
  have hp : 2 ^ (31 - n) ≤ 2 ^ 31 := Nat.pow_le_pow_right (by omega) (by omega)
  have hlt : 2 ^ (31 - n) < 2 ^ (32 - n) := Nat.pow_lt_pow_right (by omega) (by omega)
  obtain ⟨d, rfl⟩ := hd
  have hor := Nat.two_pow_add_eq_or_of_lt hlt d
  have hs : 2 ^ (32 - n) * d + 2 ^ (31 - n) < 4294967296 := by
    have e : 4294967296 = 2 ^ (32 - n) * 2 ^ n := by rw [← Nat.pow_add, show 32 - n + n = 32 by omega]
    rw [e] at hx ⊢
    have h2 : d < 2 ^ n := Nat.lt_of_mul_lt_mul_left hx
    have h3 : 2 ^ (32 - n) * (d + 1) ≤ 2 ^ (32 - n) * 2 ^ n := Nat.mul_le_mul_left _ h2
    rw [Nat.mul_add] at h3
    omega
  unfold orBit
  rw [if_pos (by omega)]
  have e1 : (32 - ((n : Int) + 1)).toNat = 31 - n := by omega
  rw [e1, show (2 : Int) ^ (31 - n) = ((2 ^ (31 - n) : Nat) : Int) by simp, wrapU32 (by omega)]
  unfold bits
  simp only
  rw [show BitVec.ofInt IntKind.u32.bits ((2 ^ (32 - n) * d : Nat) : Int) = BitVec.ofNat 32 (2 ^ (32 - n) * d) from BitVec.ofInt_natCast ..,
    show BitVec.ofInt IntKind.u32.bits ((2 ^ (31 - n) : Nat) : Int) = BitVec.ofNat 32 (2 ^ (31 - n)) from BitVec.ofInt_natCast ..]
  have e2 : (BitVec.ofNat 32 (2 ^ (32 - n) * d) ||| BitVec.ofNat 32 (2 ^ (31 - n))).toNat = 2 ^ (32 - n) * d + 2 ^ (31 - n) := by
    rw [BitVec.toNat_or, BitVec.toNat_ofNat, BitVec.toNat_ofNat, Nat.mod_eq_of_lt (by omega), Nat.mod_eq_of_lt (by omega), hor]
  exact (congrArg (fun k : Nat => IntKind.u32.wrap (k : Int)) e2).trans (wrapU32 hs)
/-- Address, then bits. -/
def ltE (e f : Int × Int × Nat) : Prop := e.1 < f.1 ∨ (e.1 = f.1 ∧ e.2.1 < f.2.1)
theorem pow_half {n : Nat} (h : n ≤ 31) : 2 ^ (32 - n) = 2 ^ (31 - n) + 2 ^ (31 - n) := by
  rw [show 32 - n = (31 - n) + 1 by omega, Nat.pow_succ]; omega
theorem room {x n : Nat} (hn : n ≤ 31) (hx : x + 2 ^ (32 - n) ≤ 4294967296) (hd : 2 ^ (32 - n) ∣ x) :
    x < 4294967296 ∧ x + 2 ^ (32 - (n + 1)) ≤ 4294967296 ∧ 2 ^ (32 - (n + 1)) ∣ x ∧ x + 2 ^ (31 - n) + 2 ^ (32 - (n + 1)) ≤ 4294967296 ∧ 2 ^ (32 - (n + 1)) ∣ x + 2 ^ (31 - n) := by
  have e := pow_half hn
  have hp := Nat.two_pow_pos (31 - n)
  have hd' : 2 ^ (31 - n) ∣ x := Nat.dvd_trans (Nat.pow_dvd_pow _ (by omega)) hd
  rw [show 32 - (n + 1) = 31 - n by omega]
  exact ⟨by omega, by omega, hd', by omega, Nat.dvd_add hd' (Nat.dvd_refl _)⟩
theorem Sh.hgt_node (i : Nat) (l r : Sh) {m : Int} (h : (Sh.node i l r).hgt ≤ m) : l.hgt ≤ m - 1 ∧ r.hgt ≤ m - 1 ∧ 1 ≤ m := by
  have h1 := Sh.hgt_nonneg l
  have h2 := Sh.hgt_nonneg r
  simp only [Sh.hgt] at h
  omega
theorem Sh.hgt_zero {T : Sh} (h : T.hgt ≤ 0) : T = .nil := by
  cases T with
  | nil => rfl
  | node i l r => have := Sh.hgt_node i l r h; omega
/-- A walk's right half. -/
theorem walk_node (isv : Nat → Bool) (i : Nat) (l r : Sh) {x n : Nat} (hh : (n : Int) + (Sh.node i l r).hgt ≤ 33) (hx : x + 2 ^ (32 - n) ≤ 4294967296) (hd : 2 ^ (32 - n) ∣ x) :
    (n = 32 ∧ l = .nil ∧ r = .nil ∧ walkL isv (.node i l r) (x : Int) (n : Int) = (if isv i = true then [((x : Int), (n : Int), i)] else [])) ∨
    (n ≤ 31 ∧ walkL isv (.node i l r) (x : Int) (n : Int) = (if isv i = true then [((x : Int), (n : Int), i)] else []) ++ (walkL isv l (x : Int) ((n + 1 : Nat) : Int) ++ walkL isv r ((x + 2 ^ (31 - n) : Nat) : Int) ((n + 1 : Nat) : Int))) := by
  obtain ⟨h1, h2, h3⟩ := Sh.hgt_node i l r (m := 33 - (n : Int)) (by omega)
  by_cases hn : n ≤ 31
  · right
    refine ⟨hn, ?_⟩
    have e : ((n + 1 : Nat) : Int) = (n : Int) + 1 := by omega
    rw [e, ← orBit_eq (by have := Nat.two_pow_pos (32 - n); omega) hn hd]
    rfl
  · left
    have e : n = 32 := by omega
    have hl : l = .nil := Sh.hgt_zero (by omega)
    have hr : r = .nil := Sh.hgt_zero (by omega)
    subst hl hr
    refine ⟨e, rfl, rfl, ?_⟩
    simp [walkL]
theorem walk_range (isv : Nat → Bool) : ∀ (T : Sh) (x n : Nat), (n : Int) + T.hgt ≤ 33 → x + 2 ^ (32 - n) ≤ 4294967296 → 2 ^ (32 - n) ∣ x →
    ∀ e ∈ walkL isv T (x : Int) (n : Int), (x : Int) ≤ e.1 ∧ e.1 < ((x + 2 ^ (32 - n) : Nat) : Int) ∧ (n : Int) ≤ e.2.1 ∧ e.2.1 ≤ 32
  | .nil, _, _, _, _, _, e, he => by simp [walkL] at he
  | .node i l r, x, n, hh, hx, hd, e, he => by
    have hp := Nat.two_pow_pos (32 - n)
    have hg := Sh.hgt_node i l r (m := 33 - (n : Int)) (by omega)
    rcases walk_node isv i l r hh hx hd with ⟨hn, -, -, hw⟩ | ⟨hn, hw⟩
    · rw [hw] at he
      split at he
      · have := List.mem_singleton.1 he
        subst this
        simp only
        omega
      · cases he
    · rw [hw] at he
      obtain ⟨g1, g2, g3, g4, g5⟩ := room hn hx hd
      have e1 := pow_half hn
      have e2 : 32 - (n + 1) = 31 - n := by omega
      rcases List.mem_append.1 he with he | he
      · split at he
        · have := List.mem_singleton.1 he
          subst this
          simp only
          omega
        · cases he
      · rcases List.mem_append.1 he with he | he
        · have := walk_range isv l x (n + 1) (by omega) g2 g3 e he
          rw [e2] at this
          omega
        · have := walk_range isv r (x + 2 ^ (31 - n)) (n + 1) (by omega) g4 g5 e he
          rw [e2] at this
          omega
theorem walk_sorted (isv : Nat → Bool) : ∀ (T : Sh) (x n : Nat), (n : Int) + T.hgt ≤ 33 → x + 2 ^ (32 - n) ≤ 4294967296 → 2 ^ (32 - n) ∣ x →
    (walkL isv T (x : Int) (n : Int)).Pairwise ltE
  | .nil, _, _, _, _, _ => by simp [walkL]
  | .node i l r, x, n, hh, hx, hd => by
    have hp := Nat.two_pow_pos (32 - n)
    have hg := Sh.hgt_node i l r (m := 33 - (n : Int)) (by omega)
    rcases walk_node isv i l r hh hx hd with ⟨hn, -, -, hw⟩ | ⟨hn, hw⟩
    · rw [hw]
      split <;> simp
    · rw [hw]
      obtain ⟨g1, g2, g3, g4, g5⟩ := room hn hx hd
      have e1 := pow_half hn
      have e2 : 32 - (n + 1) = 31 - n := by omega
      have hl := walk_range isv l x (n + 1) (by omega) g2 g3
      have hr := walk_range isv r (x + 2 ^ (31 - n)) (n + 1) (by omega) g4 g5
      rw [List.pairwise_append, List.pairwise_append]
      refine ⟨by split <;> simp, ⟨walk_sorted isv l x (n + 1) (by omega) g2 g3, walk_sorted isv r (x + 2 ^ (31 - n)) (n + 1) (by omega) g4 g5, fun a ha b hb => ?_⟩, fun a ha b hb => ?_⟩
      · have h1 := hl a ha
        have h2 := hr b hb
        rw [e2] at h1 h2
        unfold ltE; omega
      · split at ha
        · have := List.mem_singleton.1 ha
          subst this
          unfold ltE
          simp only
          rcases List.mem_append.1 hb with hb | hb
          · have := hl b hb
            omega
          · have := hr b hb
            have := Nat.two_pow_pos (31 - n)
            omega
        · cases ha
end Go.Vm
end
section
namespace Go.Vm
open Go.Proofs
def lk : Sh → List Bool → Option Nat
  | .nil, _ => none
  | .node i _ _, [] => some i
  | .node _ l r, b :: p => lk (if b = true then r else l) p
theorem lk_mem : ∀ {T : Sh} {p : List Bool} {c : Nat}, lk T p = some c → c ∈ T.ids
  | .nil, _, _, h => by simp [lk] at h
  | .node i l r, [], c, h => by simp [lk] at h; subst h; simp [Sh.ids]
  | .node i l r, b :: p, c, h => by
    simp only [lk] at h
    have := lk_mem h
    simp only [Sh.ids, List.mem_cons, List.mem_append]
    cases b <;> simp at this <;> simp [this]
theorem walk_ids (isv : Nat → Bool) : ∀ (T : Sh) (a n : Int) (e : Int × Int × Nat), e ∈ walkL isv T a n → e.2.2 ∈ T.ids ∧ isv e.2.2 = true
  | .nil, _, _, e, h => by simp [walkL] at h
  | .node i l r, a, n, e, h => by
    simp only [walkL, List.mem_append] at h
    simp only [Sh.ids, List.mem_cons, List.mem_append]
    rcases h with h | h | h
    · split at h
      · rename_i hi
        have := List.mem_singleton.1 h
        subst this
        exact ⟨.inl rfl, hi⟩
      · cases h
    · obtain ⟨h1, h2⟩ := walk_ids isv l _ _ e h
      exact ⟨.inr (.inl h1), h2⟩
    · obtain ⟨h1, h2⟩ := walk_ids isv r _ _ e h
      exact ⟨.inr (.inr h1), h2⟩
theorem walk_has (isv : Nat → Bool) : ∀ (T : Sh) (a n : Int) (j : Nat), j ∈ T.ids → isv j = true → j ∈ (walkL isv T a n).map (·.2.2)
  | .nil, _, _, j, h, _ => by simp [Sh.ids] at h
  | .node i l r, a, n, j, h, hj => by
    simp only [Sh.ids, List.mem_cons, List.mem_append] at h
    simp only [walkL, List.map_append, List.mem_append]
    rcases h with rfl | h | h
    · left; rw [if_pos hj]; simp
    · exact .inr (.inl (walk_has isv l _ _ j h hj))
    · exact .inr (.inr (walk_has isv r _ _ j h hj))
theorem walk_congr {isv isv' : Nat → Bool} : ∀ (T : Sh) (a n : Int), (∀ j ∈ T.ids, isv j = isv' j) → walkL isv T a n = walkL isv' T a n
  | .nil, _, _, _ => rfl
  | .node i l r, a, n, h => by
    simp only [walkL]
    rw [h i (by simp [Sh.ids]), walk_congr l _ _ (fun j hj => h j (by simp [Sh.ids, hj])), walk_congr r _ _ (fun j hj => h j (by simp [Sh.ids, hj]))]
theorem walk_filter {isv isv' : Nat → Bool} {q : Nat → Bool} : ∀ (T : Sh) (a n : Int), (∀ j ∈ T.ids, isv' j = (isv j && q j)) → walkL isv' T a n = (walkL isv T a n).filter fun e => q e.2.2
  | .nil, _, _, _ => rfl
  | .node i l r, a, n, h => by
    simp only [walkL, List.filter_append]
    rw [h i (by simp [Sh.ids]), walk_filter l _ _ (fun j hj => h j (by simp [Sh.ids, hj])), walk_filter r _ _ (fun j hj => h j (by simp [Sh.ids, hj]))]
    congr 1
    cases isv i <;> cases hq : q i <;> simp [hq]
theorem Sh.nodup_node {i : Nat} {l r : Sh} (h : (Sh.node i l r).ids.Nodup) : i ∉ l.ids ∧ i ∉ r.ids ∧ l.ids.Nodup ∧ r.ids.Nodup ∧ ∀ j ∈ l.ids, j ∉ r.ids := by
  simp only [Sh.ids, List.nodup_cons, List.mem_append, not_or, List.nodup_append] at h
  exact ⟨h.1.1, h.1.2, h.2.1, h.2.2.1, fun j hj hr => h.2.2.2 j hj j hr rfl⟩
/-- The walk around the node to which a path leads. -/
theorem walk_at (isv : Nat → Bool) : ∀ (p : List Bool) (T : Sh) (x n c : Nat), lk T p = some c → T.ids.Nodup → (n : Int) + T.hgt ≤ 33 → x + 2 ^ (32 - n) ≤ 4294967296 → 2 ^ (32 - n) ∣ x →
    ∃ u v : List (Int × Int × Nat), c ∉ u.map (·.2.2) ∧ c ∉ v.map (·.2.2) ∧ ∀ isv' : Nat → Bool, (∀ j, j ≠ c → isv' j = isv j) →
      walkL isv' T (x : Int) (n : Int) = u ++ (if isv' c = true then [(((x + val n p : Nat) : Int), ((n + p.length : Nat) : Int), c)] else []) ++ v
  | _, .nil, _, _, _, h, _, _, _, _ => by simp [lk] at h
  | [], .node i l r, x, n, c, h, hnd, hh, hx, hd => by
    simp only [lk, Option.some.injEq] at h
    subst h
    obtain ⟨n1, n2, n3, n4, n5⟩ := Sh.nodup_node hnd
    rcases walk_node isv i l r hh hx hd with ⟨hn, hl, hr, -⟩ | ⟨hn, -⟩
    · subst hl hr
      refine ⟨[], [], by simp, by simp, fun isv' _ => ?_⟩
      rcases walk_node isv' i .nil .nil hh hx hd with ⟨-, -, -, hw⟩ | ⟨hn', -⟩
      · rw [hw]; simp [val]
      · omega
    · refine ⟨[], walkL isv l (x : Int) ((n + 1 : Nat) : Int) ++ walkL isv r ((x + 2 ^ (31 - n) : Nat) : Int) ((n + 1 : Nat) : Int), by simp, ?_, fun isv' hi => ?_⟩
      · rw [List.map_append, List.mem_append, not_or]
        refine ⟨fun hm => ?_, fun hm => ?_⟩
        · obtain ⟨e, he, hei⟩ := List.mem_map.1 hm
          exact n1 (hei ▸ (walk_ids isv l _ _ e he).1)
        · obtain ⟨e, he, hei⟩ := List.mem_map.1 hm
          exact n2 (hei ▸ (walk_ids isv r _ _ e he).1)
      · rcases walk_node isv' i l r hh hx hd with ⟨hn', -⟩ | ⟨-, hw⟩
        · omega
        · rw [hw, walk_congr l _ _ (fun j hj => hi j fun e => n1 (e ▸ hj)), walk_congr r _ _ (fun j hj => hi j fun e => n2 (e ▸ hj))]
          simp [val]
  | b :: p, .node i l r, x, n, c, h, hnd, hh, hx, hd => by
    simp only [lk] at h
    obtain ⟨n1, n2, n3, n4, n5⟩ := Sh.nodup_node hnd
    have hg := Sh.hgt_node i l r (m := 33 - (n : Int)) (by omega)
    have hn : n ≤ 31 := by
      rcases walk_node isv i l r hh hx hd with ⟨hn, hl, hr, -⟩ | ⟨hn, -⟩
      · subst hl hr
        cases b <;> simp [lk] at h
      · exact hn
    obtain ⟨g1, g2, g3, g4, g5⟩ := room hn hx hd
    have hlen : n + (b :: p).length = n + 1 + p.length := by simp; omega
    have hic : i ≠ c := fun e => by
      subst e
      have := lk_mem h
      cases b <;> simp at this
      · exact n1 this
      · exact n2 this
    cases b with
    | false =>
      simp only [Bool.false_eq_true, if_false] at h
      have hc := lk_mem h
      obtain ⟨u, v, hu, hv, hw⟩ := walk_at isv p l x (n + 1) c h n3 (by omega) g2 g3
      refine ⟨(if isv i = true then [((x : Int), (n : Int), i)] else []) ++ u, v ++ walkL isv r ((x + 2 ^ (31 - n) : Nat) : Int) ((n + 1 : Nat) : Int), ?_, ?_, fun isv' hi => ?_⟩
      · rw [List.map_append, List.mem_append, not_or]
        refine ⟨?_, hu⟩
        split
        · simp; exact fun e => hic e.symm
        · simp
      · rw [List.map_append, List.mem_append, not_or]
        refine ⟨hv, fun hm => ?_⟩
        obtain ⟨e, he, hei⟩ := List.mem_map.1 hm
        exact n5 c hc (hei ▸ (walk_ids isv r _ _ e he).1)
      · rcases walk_node isv' i l r hh hx hd with ⟨hn', -⟩ | ⟨-, hw'⟩
        · omega
        · rw [hw', hw isv' hi, walk_congr r _ _ (fun j hj => hi j fun e => n5 c hc (e ▸ hj)), hi i hic, hlen]
          simp [val, List.append_assoc]
    | true =>
      simp only [if_true] at h
      have hc := lk_mem h
      obtain ⟨u, v, hu, hv, hw⟩ := walk_at isv p r (x + 2 ^ (31 - n)) (n + 1) c h n4 (by omega) g4 g5
      refine ⟨(if isv i = true then [((x : Int), (n : Int), i)] else []) ++ (walkL isv l (x : Int) ((n + 1 : Nat) : Int) ++ u), v, ?_, hv, fun isv' hi => ?_⟩
      · rw [List.map_append, List.mem_append, List.map_append, List.mem_append, not_or, not_or]
        refine ⟨?_, fun hm => ?_, hu⟩
        · split
          · simp; exact fun e => hic e.symm
          · simp
        · obtain ⟨e, he, hei⟩ := List.mem_map.1 hm
          exact n5 c (hei ▸ (walk_ids isv l _ _ e he).1) hc
      · rcases walk_node isv' i l r hh hx hd with ⟨hn', -⟩ | ⟨-, hw'⟩
        · omega
        · rw [hw', hw isv' hi, walk_congr l _ _ (fun j hj => hi j fun e => n5 j hj (e ▸ hc)), hi i hic, hlen]
          have e : x + 2 ^ (31 - n) + val (n + 1) p = x + val n (true :: p) := by simp [val]; omega
          rw [e]
          simp [List.append_assoc]
end Go.Vm
end
section
namespace Go.Vm
open Go.Proofs
theorem ShIn.congr {A A' : List Nd} : ∀ {T : Sh}, ShIn A T → (∀ j ∈ T.ids, A'[j]? = A[j]?) → ShIn A' T
  | .nil, _, _ => trivial
  | .node i l r, h, hj => by
    obtain ⟨⟨nd, h1, h2, h3⟩, h4, h5, h6, h7⟩ := h
    exact ⟨⟨nd, (hj i (by simp [Sh.ids])).trans h1, h2, h3⟩, h4, h5, h6.congr (fun j hm => hj j (by simp [Sh.ids, hm])), h7.congr (fun j hm => hj j (by simp [Sh.ids, hm]))⟩
/-- What grows where a path's nodes are made below node c. -/
structure Grown (p : List Bool) (A : List Nd) (S : Sh) (A' : List Nd) (c' : Nat) (S' : Sh) : Prop where
  sh : ShIn A' S'
  nd : S'.ids.Nodup
  ids : ∀ j, j ∈ S'.ids ↔ j ∈ S.ids ∨ (A.length ≤ j ∧ j < A'.length)
  at_ : lk S' p = some c'
  le : A.length ≤ A'.length
  out : ∀ j, j < A.length → j ∉ S.ids → A'[j]? = A[j]?
  flags : ∀ j, (A'.getD j leaf).is = (A.getD j leaf).is ∧ (A'.getD j leaf).owner = (A.getD j leaf).owner
  hgt : S'.hgt ≤ max S.hgt ((p.length : Int) + 1)
  walk : ∀ isv : Nat → Bool, (∀ j, A.length ≤ j → isv j = false) → ∀ a n, walkL isv S' a n = walkL isv S a n
theorem grown : ∀ (p : List Bool) (A : List Nd) (c : Nat) (l r : Sh), ShIn A (.node c l r) → (Sh.node c l r).ids.Nodup → (∀ j ∈ (Sh.node c l r).ids, j < A.length) →
    ∀ A' c', p.foldl atStep (A, c) = (A', c') → ∃ l' r', Grown p A (.node c l r) A' c' (.node c l' r')
  | [], A, c, l, r, hS, hnd, hlt, A', c', hf => by
    cases hf
    exact ⟨l, r, hS, hnd, fun j => ⟨fun h => .inl h, fun h => h.elim id fun h => by omega⟩, rfl, Nat.le_refl _, fun _ _ _ => rfl, fun _ => ⟨rfl, rfl⟩, by simp only [List.length_nil]; omega, fun _ _ _ _ => rfl⟩
  | b :: p, A, c, l, r, hS, hnd, hlt, A', c', hf => by
    obtain ⟨⟨nd, h1, h2, h3⟩, h4, h5, h6, h7⟩ := hS
    obtain ⟨n1, n2, n3, n4, n5⟩ := Sh.nodup_node hnd
    have hgd := getD_of h1
    have hcA : c < A.length := (List.getElem?_eq_some_iff.1 h1).1
    have hll : ∀ j ∈ l.ids, j < A.length := fun j hj => hlt j (by simp [Sh.ids, hj])
    have hrl : ∀ j ∈ r.ids, j < A.length := fun j hj => hlt j (by simp [Sh.ids, hj])
    rw [List.foldl_cons] at hf
    cases b with
    | false =>
      cases hl : l with
      | nil =>
        subst hl
        have hk : nd.k0 = 0 := h2
        have hstep : atStep (A, c) false = (A.set c ⟨A.length, nd.k1, nd.is, nd.owner⟩ ++ [leaf], A.length) := by
          unfold atStep
          simp only [hgd]
          rw [if_pos (by unfold Nd.kid; simp [hk])]
          unfold Nd.setKid; simp
        rw [hstep] at hf
        have hA1l : (A.set c ⟨A.length, nd.k1, nd.is, nd.owner⟩ ++ [leaf]).length = A.length + 1 := by simp
        have hA1n : (A.set c ⟨A.length, nd.k1, nd.is, nd.owner⟩ ++ [leaf])[A.length]? = some leaf := by rw [List.getElem?_append_right (by simp)]; simp
        have hA1c : (A.set c ⟨A.length, nd.k1, nd.is, nd.owner⟩ ++ [leaf])[c]? = some ⟨A.length, nd.k1, nd.is, nd.owner⟩ := by
          rw [List.getElem?_append_left (by simpa using hcA), List.getElem?_set, if_pos rfl, if_pos hcA]
        have hA1o : ∀ j, j < A.length → j ≠ c → (A.set c ⟨A.length, nd.k1, nd.is, nd.owner⟩ ++ [leaf])[j]? = A[j]? := fun j hj hjc => by
          rw [List.getElem?_append_left (by simpa using hj), List.getElem?_set, if_neg (fun e => hjc e.symm)]
        have hA1f : ∀ j, ((A.set c ⟨A.length, nd.k1, nd.is, nd.owner⟩ ++ [leaf]).getD j leaf).is = (A.getD j leaf).is ∧ ((A.set c ⟨A.length, nd.k1, nd.is, nd.owner⟩ ++ [leaf]).getD j leaf).owner = (A.getD j leaf).owner := fun j => by
          by_cases hjc : j = c
          · subst hjc
            rw [getD_of hA1c, hgd]; exact ⟨rfl, rfl⟩
          · by_cases hj : j < A.length
            · rw [List.getD_eq_getElem?_getD, hA1o j hj hjc, ← List.getD_eq_getElem?_getD]; exact ⟨rfl, rfl⟩
            · have e2 : A.getD j leaf = leaf := by rw [List.getD_eq_getElem?_getD, List.getElem?_eq_none (by omega)]; rfl
              have e1 : (A.set c ⟨A.length, nd.k1, nd.is, nd.owner⟩ ++ [leaf]).getD j leaf = leaf := by
                by_cases hjn : j = A.length
                · rw [hjn]; exact getD_of hA1n
                · rw [List.getD_eq_getElem?_getD, List.getElem?_eq_none (by omega)]; rfl
              rw [e1, e2]; exact ⟨rfl, rfl⟩
        generalize A.set c ⟨A.length, nd.k1, nd.is, nd.owner⟩ ++ [leaf] = A1 at *
        obtain ⟨l1, r1, G⟩ := grown p A1 A.length .nil .nil ⟨⟨leaf, hA1n, rfl, rfl⟩, by simp [Sh.ids], by simp [Sh.ids], trivial, trivial⟩ (by simp [Sh.ids]) (by simp [Sh.ids]; omega) A' c' hf
        have hout : ∀ j, j < A.length → j ≠ c → A'[j]? = A[j]? := fun j hj hjc => (G.out j (by omega) (by simp [Sh.ids]; omega)).trans (hA1o j hj hjc)
        have hcc := (G.out c (by omega) (by simp [Sh.ids]; omega)).trans hA1c
        have hid : ∀ j, j ∈ (Sh.node A.length l1 r1).ids ↔ (A.length ≤ j ∧ j < A'.length) := fun j => by
          have hle := G.le
          rw [G.ids j]
          simp only [Sh.ids, List.append_nil, List.mem_singleton]
          omega
        have hle := G.le
        have hhg := G.hgt
        simp only [Sh.hgt] at hhg
        refine ⟨.node A.length l1 r1, r, ⟨⟨⟨A.length, nd.k1, nd.is, nd.owner⟩, hcc, rfl, h3⟩, fun j hj => by have := (hid j).1 hj; omega, h5, G.sh, h7.congr fun j hj => hout j (hrl j hj) (fun e => n2 (e ▸ hj))⟩, ?_, fun j => ?_, G.at_, by omega, fun j hj hjS => hout j hj (fun e => hjS (by rw [e]; simp [Sh.ids])), fun j => ?_, ?_, fun isv hi a n => ?_⟩
        · simp only [Sh.ids, List.nodup_cons, List.mem_append, not_or, List.nodup_append]
          have hn := G.nd
          have hc1 : c ∉ (Sh.node A.length l1 r1).ids := fun h => by have := (hid c).1 h; omega
          have hdis : ∀ j ∈ (Sh.node A.length l1 r1).ids, j ∉ r.ids := fun j hj hr => by have := (hid j).1 hj; have := hrl j hr; omega
          simp only [Sh.ids, List.nodup_cons, List.mem_append, not_or, List.nodup_append] at hn hc1 hdis
          exact ⟨⟨hc1, n2⟩, hn, n4, fun a ha b hb e => hdis a ha (e ▸ hb)⟩
        · have := hid j
          simp only [Sh.ids, List.mem_cons, List.mem_append, List.not_mem_nil, false_or, or_false] at this ⊢
          constructor
          · rintro (h | h | h)
            · exact .inl (.inl h)
            · have := this.1 h; omega
            · exact .inl (.inr h)
          · rintro ((h | h) | h)
            · exact .inl h
            · exact .inr (.inr h)
            · exact .inr (.inl (this.2 h))
        · exact ⟨(G.flags j).1.trans (hA1f j).1, (G.flags j).2.trans (hA1f j).2⟩
        · simp only [Sh.hgt, List.length_cons] at hhg ⊢
          omega
        · have hw : ∀ a n, walkL isv (.node A.length l1 r1) a n = [] := fun a n => by
            rw [G.walk isv (fun j hj => hi j (by omega)) a n]
            simp [walkL, hi A.length (Nat.le_refl _)]
          conv => lhs; rw [walkL, hw]
          conv => rhs; rw [walkL]
          simp [walkL]
      | node k l0 r0 =>
        have hk0 : k ≠ 0 := h4 k (by rw [hl]; simp [Sh.ids])
        have hk : nd.k0 = k := by rw [h2, hl]; rfl
        have hstep : atStep (A, c) false = (A, k) := by
          unfold atStep
          simp only [hgd]
          have : nd.kid false = k := by unfold Nd.kid; simp [hk]
          rw [this, if_neg hk0]
        rw [hstep] at hf
        rw [hl] at h6 n3 hll n1 h4
        obtain ⟨l1, r1, G⟩ := grown p A k l0 r0 h6 n3 hll A' c' hf
        have hcc := (G.out c hcA n1).trans h1
        have hle := G.le
        have hhg := G.hgt
        have hids := G.ids
        have h0 : ∀ j ∈ (Sh.node k l1 r1).ids, j ≠ 0 := fun j hj => by
          rcases (hids j).1 hj with h | h
          · exact h4 j h
          · omega
        have hdj : ∀ j ∈ r.ids, j ∉ (Sh.node k l0 r0).ids := fun j hr hj => by rw [← hl] at hj; exact n5 j hj hr
        refine ⟨.node k l1 r1, r, ⟨⟨nd, hcc, by rw [h2, hl]; rfl, h3⟩, h0, h5, G.sh, h7.congr fun j hj => G.out j (hrl j hj) (hdj j hj)⟩, ?_, fun j => ?_, G.at_, by omega, fun j hj hjS => G.out j hj (fun e => hjS (List.mem_cons_of_mem _ (List.mem_append.2 (.inl e)))), G.flags, ?_, fun isv hi a n => ?_⟩
        · simp only [Sh.ids, List.nodup_cons, List.mem_append, not_or, List.nodup_append]
          have hn := G.nd
          have hc1 : c ∉ (Sh.node k l1 r1).ids := fun h => by
            rcases (hids c).1 h with h | h
            · exact n1 h
            · omega
          have hdis : ∀ j ∈ (Sh.node k l1 r1).ids, j ∉ r.ids := fun j hj hr => by
            rcases (hids j).1 hj with h | h
            · exact hdj j hr h
            · have := hrl j hr; omega
          simp only [Sh.ids, List.nodup_cons, List.mem_append, not_or, List.nodup_append] at hn hc1 hdis
          exact ⟨⟨hc1, n2⟩, hn, n4, fun a ha b hb e => hdis a ha (e ▸ hb)⟩
        · have := hids j
          simp only [Sh.ids, List.mem_cons, List.mem_append] at this ⊢
          constructor
          · rintro (h | h | h)
            · exact .inl (.inl h)
            · rcases this.1 h with h | h
              · exact .inl (.inr (.inl h))
              · exact .inr h
            · exact .inl (.inr (.inr h))
          · rintro ((h | h | h) | h)
            · exact .inl h
            · exact .inr (.inl (this.2 (.inl h)))
            · exact .inr (.inr h)
            · exact .inr (.inl (this.2 (.inr h)))
        · simp only [Sh.hgt, List.length_cons] at hhg ⊢
          omega
        · conv => lhs; rw [walkL, G.walk isv hi]
          conv => rhs; rw [walkL]
    | true =>
      cases hl : r with
      | nil =>
        subst hl
        have hk : nd.k1 = 0 := h3
        have hstep : atStep (A, c) true = (A.set c ⟨nd.k0, A.length, nd.is, nd.owner⟩ ++ [leaf], A.length) := by
          unfold atStep
          simp only [hgd]
          rw [if_pos (by unfold Nd.kid; simp [hk])]
          unfold Nd.setKid; simp
        rw [hstep] at hf
        have hA1l : (A.set c ⟨nd.k0, A.length, nd.is, nd.owner⟩ ++ [leaf]).length = A.length + 1 := by simp
        have hA1n : (A.set c ⟨nd.k0, A.length, nd.is, nd.owner⟩ ++ [leaf])[A.length]? = some leaf := by rw [List.getElem?_append_right (by simp)]; simp
        have hA1c : (A.set c ⟨nd.k0, A.length, nd.is, nd.owner⟩ ++ [leaf])[c]? = some ⟨nd.k0, A.length, nd.is, nd.owner⟩ := by
          rw [List.getElem?_append_left (by simpa using hcA), List.getElem?_set, if_pos rfl, if_pos hcA]
        have hA1o : ∀ j, j < A.length → j ≠ c → (A.set c ⟨nd.k0, A.length, nd.is, nd.owner⟩ ++ [leaf])[j]? = A[j]? := fun j hj hjc => by
          rw [List.getElem?_append_left (by simpa using hj), List.getElem?_set, if_neg (fun e => hjc e.symm)]
        have hA1f : ∀ j, ((A.set c ⟨nd.k0, A.length, nd.is, nd.owner⟩ ++ [leaf]).getD j leaf).is = (A.getD j leaf).is ∧ ((A.set c ⟨nd.k0, A.length, nd.is, nd.owner⟩ ++ [leaf]).getD j leaf).owner = (A.getD j leaf).owner := fun j => by
          by_cases hjc : j = c
          · subst hjc
            rw [getD_of hA1c, hgd]; exact ⟨rfl, rfl⟩
          · by_cases hj : j < A.length
            · rw [List.getD_eq_getElem?_getD, hA1o j hj hjc, ← List.getD_eq_getElem?_getD]; exact ⟨rfl, rfl⟩
            · have e2 : A.getD j leaf = leaf := by rw [List.getD_eq_getElem?_getD, List.getElem?_eq_none (by omega)]; rfl
              have e1 : (A.set c ⟨nd.k0, A.length, nd.is, nd.owner⟩ ++ [leaf]).getD j leaf = leaf := by
                by_cases hjn : j = A.length
                · rw [hjn]; exact getD_of hA1n
                · rw [List.getD_eq_getElem?_getD, List.getElem?_eq_none (by omega)]; rfl
              rw [e1, e2]; exact ⟨rfl, rfl⟩
        generalize A.set c ⟨nd.k0, A.length, nd.is, nd.owner⟩ ++ [leaf] = A1 at *
        obtain ⟨l1, r1, G⟩ := grown p A1 A.length .nil .nil ⟨⟨leaf, hA1n, rfl, rfl⟩, by simp [Sh.ids], by simp [Sh.ids], trivial, trivial⟩ (by simp [Sh.ids]) (by simp [Sh.ids]; omega) A' c' hf
        have hout : ∀ j, j < A.length → j ≠ c → A'[j]? = A[j]? := fun j hj hjc => (G.out j (by omega) (by simp [Sh.ids]; omega)).trans (hA1o j hj hjc)
        have hcc := (G.out c (by omega) (by simp [Sh.ids]; omega)).trans hA1c
        have hid : ∀ j, j ∈ (Sh.node A.length l1 r1).ids ↔ (A.length ≤ j ∧ j < A'.length) := fun j => by
          have hle := G.le
          rw [G.ids j]
          simp only [Sh.ids, List.append_nil, List.mem_singleton]
          omega
        have hle := G.le
        have hhg := G.hgt
        simp only [Sh.hgt] at hhg
        refine ⟨l, .node A.length l1 r1, ⟨⟨⟨nd.k0, A.length, nd.is, nd.owner⟩, hcc, h2, rfl⟩, h4, fun j hj => by have := (hid j).1 hj; omega, h6.congr fun j hj => hout j (hll j hj) (fun e => n1 (e ▸ hj)), G.sh⟩, ?_, fun j => ?_, G.at_, by omega, fun j hj hjS => hout j hj (fun e => hjS (by rw [e]; simp [Sh.ids])), fun j => ?_, ?_, fun isv hi a n => ?_⟩
        · simp only [Sh.ids, List.nodup_cons, List.mem_append, not_or, List.nodup_append]
          have hn := G.nd
          have hc1 : c ∉ (Sh.node A.length l1 r1).ids := fun h => by have := (hid c).1 h; omega
          have hdis : ∀ j ∈ (Sh.node A.length l1 r1).ids, j ∉ l.ids := fun j hj hr => by have := (hid j).1 hj; have := hll j hr; omega
          simp only [Sh.ids, List.nodup_cons, List.mem_append, not_or, List.nodup_append] at hn hc1 hdis
          exact ⟨⟨n1, hc1⟩, n3, hn, fun a ha b hb e => hdis b hb (e ▸ ha)⟩
        · have := hid j
          simp only [Sh.ids, List.mem_cons, List.mem_append, List.not_mem_nil, false_or, or_false] at this ⊢
          constructor
          · rintro (h | h | h)
            · exact .inl (.inl h)
            · exact .inl (.inr h)
            · have := this.1 h; omega
          · rintro ((h | h) | h)
            · exact .inl h
            · exact .inr (.inl h)
            · exact .inr (.inr (this.2 h))
        · exact ⟨(G.flags j).1.trans (hA1f j).1, (G.flags j).2.trans (hA1f j).2⟩
        · simp only [Sh.hgt, List.length_cons] at hhg ⊢
          omega
        · have hw : ∀ a n, walkL isv (.node A.length l1 r1) a n = [] := fun a n => by
            rw [G.walk isv (fun j hj => hi j (by omega)) a n]
            simp [walkL, hi A.length (Nat.le_refl _)]
          conv => lhs; rw [walkL, hw]
          conv => rhs; rw [walkL]
          simp [walkL]
      | node k l0 r0 =>
        have hk0 : k ≠ 0 := h5 k (by rw [hl]; simp [Sh.ids])
        have hk : nd.k1 = k := by rw [h3, hl]; rfl
        have hstep : atStep (A, c) true = (A, k) := by
          unfold atStep
          simp only [hgd]
          have : nd.kid true = k := by unfold Nd.kid; simp [hk]
          rw [this, if_neg hk0]
        rw [hstep] at hf
        rw [hl] at h7 n4 hrl n2 h5
        obtain ⟨l1, r1, G⟩ := grown p A k l0 r0 h7 n4 hrl A' c' hf
        have hcc := (G.out c hcA n2).trans h1
        have hle := G.le
        have hhg := G.hgt
        have hids := G.ids
        have h0 : ∀ j ∈ (Sh.node k l1 r1).ids, j ≠ 0 := fun j hj => by
          rcases (hids j).1 hj with h | h
          · exact h5 j h
          · omega
        have hdj : ∀ j ∈ l.ids, j ∉ (Sh.node k l0 r0).ids := fun j hr hj => by rw [← hl] at hj; exact n5 j hr hj
        refine ⟨l, .node k l1 r1, ⟨⟨nd, hcc, h2, by rw [h3, hl]; rfl⟩, h4, h0, h6.congr fun j hj => G.out j (hll j hj) (hdj j hj), G.sh⟩, ?_, fun j => ?_, G.at_, by omega, fun j hj hjS => G.out j hj (fun e => hjS (List.mem_cons_of_mem _ (List.mem_append.2 (.inr e)))), G.flags, ?_, fun isv hi a n => ?_⟩
        · simp only [Sh.ids, List.nodup_cons, List.mem_append, not_or, List.nodup_append]
          have hn := G.nd
          have hc1 : c ∉ (Sh.node k l1 r1).ids := fun h => by
            rcases (hids c).1 h with h | h
            · exact n2 h
            · omega
          have hdis : ∀ j ∈ (Sh.node k l1 r1).ids, j ∉ l.ids := fun j hj hr => by
            rcases (hids j).1 hj with h | h
            · exact hdj j hr h
            · have := hll j hr; omega
          simp only [Sh.ids, List.nodup_cons, List.mem_append, not_or, List.nodup_append] at hn hc1 hdis
          exact ⟨⟨n1, hc1⟩, n3, hn, fun a ha b hb e => hdis b hb (e ▸ ha)⟩
        · have := hids j
          simp only [Sh.ids, List.mem_cons, List.mem_append] at this ⊢
          constructor
          · rintro (h | h | h)
            · exact .inl (.inl h)
            · exact .inl (.inr (.inl h))
            · rcases this.1 h with h | h
              · exact .inl (.inr (.inr h))
              · exact .inr h
          · rintro ((h | h | h) | h)
            · exact .inl h
            · exact .inr (.inl h)
            · exact .inr (.inr (this.2 (.inl h)))
            · exact .inr (.inr (this.2 (.inr h)))
        · simp only [Sh.hgt, List.length_cons] at hhg ⊢
          omega
        · conv => lhs; rw [walkL, G.walk isv hi]
          conv => rhs; rw [walkL]
end Go.Vm
end
section
namespace Go.Vm
open Go.Proofs
theorem ltP_iff (e x : Pe) : ltP e x = true ↔ x.1.toNat < e.1.toNat ∨ (x.1.toNat = e.1.toNat ∧ x.2.1 < e.2.1) := by
  unfold ltP
  rw [decide_eq_true_iff, BitVec.lt_def, BitVec.toNat_inj]
/-- Not the same prefix. -/
def Apart (e f : Pe) : Prop := ¬ (e.1 = f.1 ∧ e.2.1 = f.2.1)
theorem Apart.symm {e f : Pe} (h : Apart e f) : Apart f e := fun k => h ⟨k.1.symm, k.2.symm⟩
theorem apart_of_lt {e f : Pe} (h : ltP f e = true) : Apart e f := fun k => by
  rw [ltP_iff, k.1, k.2] at h
  omega
theorem insP_perm (out : List Pe) (e : Pe) : (insP out e).Perm (e :: out) := by
  unfold insP
  have := List.perm_middle (a := e) (l₁ := out.takeWhile (ltP e)) (l₂ := out.dropWhile (ltP e))
  rwa [List.takeWhile_append_dropWhile] at this
theorem insP_sorted {e : Pe} : ∀ {out : List Pe}, out.Pairwise (fun x y => ltP y x = true) → (∀ x ∈ out, Apart e x) → (insP out e).Pairwise (fun x y => ltP y x = true)
  | [], _, _ => by simp [insP]
  | x :: out, h, ha => by
    rw [List.pairwise_cons] at h
    have ax := ha x (by simp)
    by_cases hx : ltP e x = true
    · have e1 : insP (x :: out) e = x :: insP out e := by
        unfold insP
        rw [List.takeWhile_cons_of_pos hx, List.dropWhile_cons_of_pos hx]; rfl
      rw [e1, List.pairwise_cons]
      refine ⟨fun y hy => ?_, insP_sorted h.2 fun y hy => ha y (by simp [hy])⟩
      rcases List.mem_cons.1 ((insP_perm out e).mem_iff.1 hy) with rfl | hy
      · exact hx
      · exact h.1 y hy
    · have e1 : insP (x :: out) e = e :: x :: out := by
        unfold insP
        rw [List.takeWhile_cons_of_neg hx, List.dropWhile_cons_of_neg hx]; rfl
      have hxe : ltP x e = true := by
        rw [ltP_iff] at hx ⊢
        have : ¬ (e.1.toNat = x.1.toNat ∧ e.2.1 = x.2.1) := fun k => ax ⟨BitVec.eq_of_toNat_eq k.1, k.2⟩
        omega
      rw [e1, List.pairwise_cons, List.pairwise_cons]
      refine ⟨fun y hy => ?_, h⟩
      rcases List.mem_cons.1 hy with rfl | hy
      · exact hxe
      · have h1 := h.1 y hy
        rw [ltP_iff] at h1 hxe ⊢
        omega
theorem sort_go : ∀ (l out : List Pe), out.Pairwise (fun x y => ltP y x = true) → l.Pairwise Apart → (∀ x ∈ out, ∀ y ∈ l, Apart y x) →
    (l.foldl insP out).Pairwise (fun x y => ltP y x = true) ∧ (l.foldl insP out).Perm (out ++ l)
  | [], out, h, _, _ => ⟨h, by simp⟩
  | e :: l, out, h, hl, ho => by
    rw [List.pairwise_cons] at hl
    obtain ⟨g1, g2⟩ := sort_go l (insP out e) (insP_sorted h fun x hx => ho x hx e (by simp)) hl.2 fun x hx y hy => by
      rcases List.mem_cons.1 ((insP_perm out e).mem_iff.1 hx) with rfl | hx
      · exact (hl.1 y hy).symm
      · exact ho x hx y (by simp [hy])
    refine ⟨g1, g2.trans ?_⟩
    have h1 := (insP_perm out e).append_right l
    exact h1.trans (List.perm_middle (a := e) (l₁ := out) (l₂ := l)).symm
theorem sortP_eq {L M : List Pe} (hM : M.Pairwise (fun x y => ltP y x = true)) (hp : M.Perm L) : M = sortP L := by
  have hL : L.Pairwise Apart := hp.pairwise (hM.imp fun h => apart_of_lt h) Apart.symm
  obtain ⟨h1, h2⟩ := sort_go L [] List.Pairwise.nil hL (by simp)
  refine List.Perm.eq_of_pairwise (le := fun x y => ltP y x = true) (fun a b _ _ hab hba => ?_) hM h1 (hp.trans h2.symm)
  rw [ltP_iff] at hab hba
  omega
def isA (A : List Nd) (i : Nat) : Bool := (A.getD i leaf).is
def ents (A : List Nd) (T : Sh) : List Pe := (walkL (isA A) T 0 0).map (toPe A)
theorem top_room : (0 : Nat) + 2 ^ (32 - 0) ≤ 4294967296 ∧ 2 ^ (32 - 0) ∣ 0 := ⟨by decide, ⟨0, rfl⟩⟩
theorem walk_top {isv : Nat → Bool} {T : Sh} (hh : T.hgt ≤ 33) : (walkL isv T 0 0).Pairwise ltE ∧ ∀ e ∈ walkL isv T 0 0, 0 ≤ e.1 ∧ e.1 < 4294967296 ∧ 0 ≤ e.2.1 ∧ e.2.1 ≤ 32 := by
  refine ⟨walk_sorted isv T 0 0 (by omega) top_room.1 top_room.2, fun e he => ?_⟩
  have := walk_range isv T 0 0 (by omega) top_room.1 top_room.2 e he
  simp only [Nat.zero_add, Nat.sub_zero] at this
  omega
theorem ofInt_nat {x : Int} (h0 : 0 ≤ x) (h1 : x < 4294967296) : (BitVec.ofInt 32 x).toNat = x.toNat := by
  have := ofInt32_toNat h0 h1
  omega
theorem ents_sorted {A : List Nd} {T : Sh} (hh : T.hgt ≤ 33) : (ents A T).Pairwise (fun x y => ltP y x = true) := by
  obtain ⟨h1, h2⟩ := walk_top (isv := isA A) hh
  unfold ents
  rw [List.pairwise_map]
  refine h1.imp_of_mem fun {a b} ha hb hab => ?_
  have ga := h2 a ha
  have gb := h2 b hb
  rw [ltP_iff]
  unfold toPe
  simp only
  rw [ofInt_nat ga.1 ga.2.1, ofInt_nat gb.1 gb.2.1]
  unfold ltE at hab
  omega
/-- Table and list say the same. -/
structure TInv (many : Int) (A : List Nd) (l r : Sh) (L : List Pe) : Prop where
  cl : Closed A
  sh : ShIn A (.node 0 l r)
  ids : ∀ j, j ∈ (Sh.node 0 l r).ids ↔ j < A.length
  nd : (Sh.node 0 l r).ids.Nodup
  hgt : (Sh.node 0 l r).hgt ≤ 33
  ent : (ents A (.node 0 l r)).Perm L
  many : many = L.length
  le : L.length ≤ 64
variable {many : Int} {A : List Nd} {l r : Sh} {L : List Pe}
theorem TInv.lt (h : TInv many A l r L) : ∀ i ∈ (Sh.node 0 l r).ids, i < A.length := fun i hi => (h.ids i).1 hi
theorem TInv.sort (h : TInv many A l r L) : (walkL (isA A) (.node 0 l r) 0 0).map (toPe A) = sortP L := sortP_eq (ents_sorted h.hgt) h.ent
theorem TInv.len (h : TInv many A l r L) : (walkL (isA A) (.node 0 l r) 0 0).length = L.length := by
  have := h.ent.length_eq
  unfold ents at this
  rwa [List.length_map] at this
theorem TInv.cnt (h : TInv many A l r L) : cntA A ≤ 64 := by
  have h1 := h.len
  have h2 := h.le
  have h3 : ((List.range A.length).filter fun i => (A.getD i leaf).is).Nodup := List.Pairwise.filter _ List.nodup_range
  have h4 := len_le (L := (walkL (isA A) (.node 0 l r) 0 0).map (·.2.2)) h3 fun x hx => by
    rw [List.mem_filter, List.mem_range] at hx
    exact walk_has _ _ _ _ x ((h.ids x).2 hx.1) hx.2
  rw [List.length_map] at h4
  unfold cntA
  omega
theorem TInv.bits (h : TInv many A l r L) : ∀ e ∈ L, e.2.1 ≤ 32 := fun e he => by
  have he2 := h.ent.mem_iff.2 he
  unfold ents at he2
  obtain ⟨w, hw, rfl⟩ := List.mem_map.1 he2
  have := (walk_top (isv := isA A) h.hgt).2 w hw
  show w.2.1.toNat ≤ 32
  omega
theorem TInv.apart (h : TInv many A l r L) : L.Pairwise Apart := h.ent.pairwise ((ents_sorted h.hgt).imp fun h => apart_of_lt h) Apart.symm
theorem TInv.init : TInv 0 [leaf] .nil .nil [] := by
  refine ⟨⟨by simp, fun j nd e => ?_⟩, ⟨⟨leaf, rfl, rfl, rfl⟩, by simp [Sh.ids], by simp [Sh.ids], trivial, trivial⟩, fun j => by simp [Sh.ids], by simp [Sh.ids], by simp [Sh.hgt], ?_, rfl, by simp⟩
  · cases j with
    | zero => simp at e; subst e; simp [leaf]
    | succ k => simp at e
  · simp [ents, walkL, isA, leaf]
end Go.Vm
end
section
namespace Go.Vm
open Go.Proofs
variable {many : Int} {A : List Nd} {l r : Sh} {L : List Pe}
theorem SameK.closed {A B : List Nd} (h : SameK A B) (hc : Closed A) : Closed B := by
  refine ⟨by rw [h.1]; exact hc.1, fun j nd e => ?_⟩
  have hj := (List.getElem?_eq_some_iff.1 e).1
  rw [h.1] at hj ⊢
  obtain ⟨nd', h1, h2, h3⟩ := h.2 j A[j] (List.getElem?_eq_getElem hj)
  rw [e] at h1
  cases h1
  rw [h2, h3]
  exact hc.2 j A[j] (List.getElem?_eq_getElem hj)
theorem SameK.shIn {A B : List Nd} (h : SameK A B) : ∀ {T : Sh}, ShIn A T → ShIn B T
  | .nil, _ => trivial
  | .node i l r, hs => by
    obtain ⟨⟨nd, h1, h2, h3⟩, h4, h5, h6, h7⟩ := hs
    obtain ⟨nd', g1, g2, g3⟩ := h.2 i nd h1
    exact ⟨⟨nd', g1, g2.trans h2, g3.trans h3⟩, h4, h5, h.shIn h6, h.shIn h7⟩
theorem getD_set (A : List Nd) (i j : Nat) (nd : Nd) : (A.set i nd).getD j leaf = if i = j ∧ i < A.length then nd else A.getD j leaf := by
  rw [List.getD_eq_getElem?_getD, List.getD_eq_getElem?_getD, List.getElem?_set]
  by_cases h : i = j
  · subst h
    by_cases h2 : i < A.length
    · simp [h2]
    · simp [h2]
  · simp [h]
theorem getD_out {A : List Nd} {j : Nat} (h : A.length ≤ j) : A.getD j leaf = leaf := by
  rw [List.getD_eq_getElem?_getD, List.getElem?_eq_none h]; rfl
theorem dropN_flags (p : Int) (x : Int × List Nd) (i j : Nat) : ((dropN p x i).2.getD j leaf).owner = (x.2.getD j leaf).owner ∧
    ((dropN p x i).2.getD j leaf).is = ((x.2.getD j leaf).is && !(decide (i = j) && decide ((x.2.getD j leaf).owner = p))) := by
  unfold dropN
  split
  · rename_i ho
    simp only
    rw [getD_set]
    by_cases h : i = j ∧ i < x.2.length
    · rw [if_pos h]
      obtain ⟨rfl, h2⟩ := h
      refine ⟨rfl, ?_⟩
      rw [decide_eq_true ho]; simp
    · rw [if_neg h]
      refine ⟨rfl, ?_⟩
      by_cases hij : i = j
      · subst hij
        have : x.2.length ≤ i := by omega
        rw [getD_out this]; simp [leaf]
      · simp [hij]
  · rename_i ho
    refine ⟨rfl, ?_⟩
    by_cases hij : i = j
    · subst hij; rw [decide_eq_false ho]; simp
    · simp [hij]
theorem dropAll_flags (p : Int) : ∀ (M : List (Int × Int × Nat)) (x : Int × List Nd) (j : Nat), ((dropAll p x M).2.getD j leaf).owner = (x.2.getD j leaf).owner ∧
    ((dropAll p x M).2.getD j leaf).is = ((x.2.getD j leaf).is && !(decide (j ∈ M.map (·.2.2)) && decide ((x.2.getD j leaf).owner = p)))
  | [], x, j => ⟨rfl, by simp [dropAll]⟩
  | e :: M, x, j => by
    obtain ⟨h1, h2⟩ := dropN_flags p x e.2.2 j
    obtain ⟨g1, g2⟩ := dropAll_flags p M (dropN p x e.2.2) j
    refine ⟨g1.trans h1, ?_⟩
    show ((dropAll p (dropN p x e.2.2) M).2.getD j leaf).is = _
    rw [g2, h1, h2]
    simp only [List.map_cons, List.mem_cons]
    by_cases a : e.2.2 = j
    · subst a
      rw [decide_eq_true (rfl : e.2.2 = e.2.2), decide_eq_true (.inl rfl : e.2.2 = e.2.2 ∨ e.2.2 ∈ M.map (·.2.2))]
      generalize (x.2.getD e.2.2 leaf).is = s
      generalize decide ((x.2.getD e.2.2 leaf).owner = p) = d
      generalize decide (e.2.2 ∈ M.map (·.2.2)) = k
      cases s <;> cases d <;> cases k <;> rfl
    · have : ¬ j = e.2.2 := fun k => a k.symm
      cases (x.2.getD j leaf).is <;> simp [a, this]
theorem dropAll_many (p : Int) : ∀ (M : List (Int × Int × Nat)) (x : Int × List Nd), (M.length : Int) ≤ x.1 → x.1 ≤ 64 →
    (dropAll p x M).1 = x.1 - ((M.filter fun e => decide ((x.2.getD e.2.2 leaf).owner = p)).length : Nat)
  | [], x, _, _ => by simp [dropAll]
  | e :: M, x, h1, h2 => by
    have hl : ((e :: M).length : Int) = M.length + 1 := by simp
    have hb : (dropN p x e.2.2).1 = x.1 - (if (x.2.getD e.2.2 leaf).owner = p then 1 else 0) := by
      unfold dropN
      split
      · show w64 (x.1 - 1) = _
        rw [w64_of (by omega) (by omega)]
      · simp
    have ih := dropAll_many p M (dropN p x e.2.2) (by rw [hb]; split <;> omega) (by rw [hb]; split <;> omega)
    show (dropAll p (dropN p x e.2.2) M).1 = _
    rw [ih, hb]
    have hf : (M.filter fun f => decide (((dropN p x e.2.2).2.getD f.2.2 leaf).owner = p)) = M.filter fun f => decide ((x.2.getD f.2.2 leaf).owner = p) := by
      refine List.filter_congr fun f _ => ?_
      rw [(dropN_flags p x e.2.2 f.2.2).1]
    rw [hf, List.filter_cons]
    by_cases hp : (x.2.getD e.2.2 leaf).owner = p
    · simp only [hp, if_true, decide_true, List.length_cons]; omega
    · simp only [hp, if_false, decide_false, Bool.false_eq_true]; omega
theorem len_filter {α : Type} (q : α → Bool) : ∀ (M : List α), (M.filter q).length + (M.filter fun e => !q e).length = M.length
  | [] => rfl
  | e :: M => by
    have := len_filter q M
    cases h : q e
    · rw [List.filter_cons_of_neg (by simp [h]), List.filter_cons_of_pos (by simp [h]), List.length_cons, List.length_cons]; omega
    · rw [List.filter_cons_of_pos h, List.filter_cons_of_neg (by simp [h]), List.length_cons, List.length_cons]; omega
theorem TInv.drop (h : TInv many A l r L) (p : Int) (R : Int × List Nd) (hR : dropAll p (many, A) (walkL (isA A) (.node 0 l r) 0 0) = R) :
    TInv R.1 R.2 l r (keepD p L) ∧ w64 (many - R.1) = (L.length : Int) - (keepD p L).length := by
  have hs := (dropAll_same p (walkL (isA A) (.node 0 l r) 0 0) (many, A)).1
  have hm := dropAll_many p (walkL (isA A) (.node 0 l r) 0 0) (many, A) (by rw [h.len, h.many]; exact Int.le_refl _) (by show many ≤ 64; rw [h.many]; have := h.le; omega)
  have hfl := dropAll_flags p (walkL (isA A) (.node 0 l r) 0 0) (many, A)
  rw [hR] at hs hm hfl
  have hw : walkL (isA R.2) (.node 0 l r) 0 0 = (walkL (isA A) (.node 0 l r) 0 0).filter fun e => decide (¬ (A.getD e.2.2 leaf).owner = p) := by
    refine walk_filter (q := fun j => decide (¬ (A.getD j leaf).owner = p)) _ _ _ fun j hj => ?_
    have := (hfl j).2
    unfold isA
    rw [this]
    by_cases hi : (A.getD j leaf).is = true
    · have hm := walk_has (isA A) _ 0 0 j hj hi
      rw [hi]
      simp [hm]
    · simp only [Bool.not_eq_true] at hi
      rw [hi]; rfl
  have he : ents R.2 (.node 0 l r) = keepD p (ents A (.node 0 l r)) := by
    unfold ents keepD
    rw [hw, List.filter_map]
    have : toPe R.2 = toPe A := by
      funext e
      unfold toPe
      rw [(hfl e.2.2).1]
    rw [this]
    rfl
  have hp : (ents R.2 (.node 0 l r)).Perm (keepD p L) := by
    rw [he]; exact h.ent.filter _
  have hlen := hp.length_eq
  have hcnt := len_filter (fun e : Int × Int × Nat => decide ((A.getD e.2.2 leaf).owner = p)) (walkL (isA A) (.node 0 l r) 0 0)
  have h2 : (ents R.2 (.node 0 l r)).length = ((walkL (isA A) (.node 0 l r) 0 0).filter fun e => !decide ((A.getD e.2.2 leaf).owner = p)).length := by
    unfold ents
    rw [hw, List.length_map]
    congr 1
    refine List.filter_congr fun e _ => ?_
    simp
  rw [h.len] at hcnt
  have hmany : R.1 = ((keepD p L).length : Int) := by
    rw [hm, h.many]
    simp only
    omega
  have hle := keepD_length p L
  have hle2 := h.le
  have hmn := h.many
  refine ⟨⟨hs.closed h.cl, hs.shIn h.sh, fun j => by rw [hs.1]; exact h.ids j, h.nd, h.hgt, hp, hmany, by omega⟩, ?_⟩
  rw [w64_of (by omega) (by omega)]
  omega
theorem TInv.top (h : TInv many A l r L) : 0 < A.length := h.cl.1
/-- A path's nodes made: nothing else turns. -/
theorem TInv.grow (h : TInv many A l r L) (p : List Bool) (hp : p.length ≤ 32) {B : List Nd} {c : Nat} (hf : p.foldl atStep (A, 0) = (B, c)) : ∃ l' r', TInv many B l' r' L ∧ lk (.node 0 l' r') p = some c := by
  obtain ⟨l', r', G⟩ := grown p A 0 l r h.sh h.nd h.lt B c hf
  have hcl := (atAll_closed p h.cl h.top).1
  rw [hf] at hcl
  have hl := G.hgt
  have hh := h.hgt
  refine ⟨l', r', ⟨hcl, G.sh, fun j => ?_, G.nd, by omega, ?_, h.many, h.le⟩, G.at_⟩
  · rw [G.ids j, h.ids j]
    have := G.le
    omega
  · have : ents B (.node 0 l' r') = ents A (.node 0 l r) := by
      have hi : isA B = isA A := by funext j; exact (G.flags j).1
      have ht : toPe B = toPe A := by
        funext e
        unfold toPe
        rw [(G.flags e.2.2).2]
      unfold ents
      rw [hi, ht, G.walk (isA A) (fun j hj => by unfold isA; rw [getD_out hj]; rfl)]
    rw [this]
    exact h.ent
/-- The flags of a node turned on. -/
theorem TInv.put (h : TInv many A l r L) {a : BitVec 32} {n c : Nat} {nd : Nd} (hn : n ≤ 32) (hv : a <<< n = 0#32) (hc : lk (.node 0 l r) (pathA a n) = some c) (hnd : A[c]? = some nd) (p : Int) :
    ∃ U V : List Pe, (∀ e ∈ U ++ V, samePre a n e = false) ∧ (U ++ ((if nd.is = true then [(a, n, nd.owner)] else []) ++ V)).Perm L ∧
      ∀ (many' : Int) (L' : List Pe), (U ++ (a, n, p) :: V).Perm L' → many' = L'.length → L'.length ≤ 64 → TInv many' (A.set c ⟨nd.k0, nd.k1, true, p⟩) l r L' := by
  obtain ⟨u, v, hu, hv', hw⟩ := walk_at (isA A) (pathA a n) (.node 0 l r) 0 0 c hc h.nd (by have := h.hgt; omega) top_room.1 top_room.2
  have hcl := (List.getElem?_eq_some_iff.1 hnd).1
  have hgd := getD_of hnd
  rw [Nat.zero_add, Nat.zero_add, (valid_iff a hn).1 hv, pathA_length] at hw
  have hsame : SameK A (A.set c ⟨nd.k0, nd.k1, true, p⟩) := by
    refine ⟨by simp, fun j nd' hj => ?_⟩
    rw [List.getElem?_set]
    by_cases e : c = j
    · subst e
      rw [if_pos rfl, if_pos hcl]
      rw [hnd] at hj
      cases hj
      exact ⟨_, rfl, rfl, rfl⟩
    · rw [if_neg e]; exact ⟨nd', hj, rfl, rfl⟩
  have hget : ∀ j, j ≠ c → (A.set c ⟨nd.k0, nd.k1, true, p⟩).getD j leaf = A.getD j leaf := fun j hj => by
    rw [getD_set, if_neg (fun e => hj e.1.symm)]
  have hgc : (A.set c ⟨nd.k0, nd.k1, true, p⟩).getD c leaf = ⟨nd.k0, nd.k1, true, p⟩ := by
    rw [getD_set, if_pos ⟨rfl, hcl⟩]
  have hmap : ∀ w : List (Int × Int × Nat), c ∉ w.map (·.2.2) → w.map (toPe (A.set c ⟨nd.k0, nd.k1, true, p⟩)) = w.map (toPe A) := fun w hw => by
    refine List.map_congr_left fun e he => ?_
    unfold toPe
    rw [hget e.2.2 (fun k => hw (List.mem_map.2 ⟨e, he, k⟩))]
  have hpa : ∀ B : List Nd, toPe B ((a.toNat : Int), (n : Int), c) = (a, n, (B.getD c leaf).owner) := fun B => by
    unfold toPe
    simp
  have e1 : ents A (.node 0 l r) = u.map (toPe A) ++ ((if nd.is = true then [(a, n, nd.owner)] else []) ++ v.map (toPe A)) := by
    unfold ents
    have := hw (isA A) (fun _ _ => rfl)
    simp only [Int.natCast_zero] at this
    rw [this, List.map_append, List.map_append, show isA A c = nd.is by unfold isA; rw [hgd], List.append_assoc]
    congr 2
    split
    · rw [List.map_cons, hpa, hgd]; rfl
    · rfl
  have e2 : ents (A.set c ⟨nd.k0, nd.k1, true, p⟩) (.node 0 l r) = u.map (toPe A) ++ (a, n, p) :: v.map (toPe A) := by
    unfold ents
    have := hw (isA (A.set c ⟨nd.k0, nd.k1, true, p⟩)) (fun j hj => by unfold isA; rw [hget j hj])
    simp only [Int.natCast_zero] at this
    rw [this, List.map_append, List.map_append, show isA (A.set c ⟨nd.k0, nd.k1, true, p⟩) c = true by unfold isA; rw [hgc], if_pos rfl, List.map_cons, hpa, hgc, hmap u hu, hmap v hv', List.append_assoc]
    rfl
  refine ⟨u.map (toPe A), v.map (toPe A), fun e he => ?_, e1 ▸ h.ent, fun many' L' hL' hm hle => ⟨hsame.closed h.cl, hsame.shIn h.sh, fun j => by rw [hsame.1]; exact h.ids j, h.nd, h.hgt, e2 ▸ hL', hm, hle⟩⟩
  have hs := ents_sorted (A := A.set c ⟨nd.k0, nd.k1, true, p⟩) (T := .node 0 l r) h.hgt
  rw [e2, List.pairwise_append, List.pairwise_cons] at hs
  have hap : Apart (a, n, p) e := by
    rcases List.mem_append.1 he with he | he
    · exact (apart_of_lt (hs.2.2 e he _ (by simp))).symm
    · exact apart_of_lt (hs.2.1.1 e he)
  unfold samePre
  refine decide_eq_false fun k => hap ⟨k.1.symm, k.2.symm⟩
end Go.Vm
end
section
namespace Go.Vm
open Go.Proofs
variable {many : Int} {A : List Nd} {l r : Sh} {L : List Pe}
theorem samePre_eq {a : BitVec 32} {n : Nat} {e : Pe} (h : samePre a n e = true) : e = (a, n, e.2.2) := by
  unfold samePre at h
  obtain ⟨h1, h2⟩ := of_decide_eq_true h
  rw [← h1, ← h2]
theorem TInv.set (h : TInv many A l r L) {a : BitVec 32} {n : Nat} (hn : n ≤ 32) (hv : a <<< n = 0#32) {B : List Nd} {c : Nat} (hf : (pathA a n).foldl atStep (A, 0) = (B, c)) (p : Int) :
    ∃ nd l' r', B[c]? = some nd ∧
      ((nd.is = true ∧ ∃ i, L.findIdx? (samePre a n) = some i ∧ TInv many (B.set c ⟨nd.k0, nd.k1, true, p⟩) l' r' (L.set i (a, n, p))) ∨
       (nd.is = false ∧ L.findIdx? (samePre a n) = none ∧ L.length = 64 ∧ TInv many B l' r' L) ∨
       (nd.is = false ∧ L.findIdx? (samePre a n) = none ∧ L.length ≠ 64 ∧ TInv (many + 1) (B.set c ⟨nd.k0, nd.k1, true, p⟩) l' r' (L ++ [(a, n, p)]))) := by
  obtain ⟨l', r', hB, hc⟩ := h.grow (pathA a n) (by rw [pathA_length]; exact hn) hf
  have hcB : c < B.length := hB.lt c (lk_mem hc)
  refine ⟨B[c], l', r', List.getElem?_eq_getElem hcB, ?_⟩
  obtain ⟨U, V, hUV, hL, hput⟩ := hB.put hn hv hc (List.getElem?_eq_getElem hcB) p
  generalize B[c] = nd at *
  cases his : nd.is with
  | true =>
    left
    refine ⟨rfl, ?_⟩
    rw [his, if_pos rfl] at hL
    have hex : ∃ x ∈ L, samePre a n x = true := ⟨(a, n, nd.owner), hL.mem_iff.1 (by simp), by simp [samePre]⟩
    cases hfi : L.findIdx? (samePre a n) with
    | none =>
      rw [List.findIdx?_eq_none_iff] at hfi
      obtain ⟨x, hx, hs⟩ := hex
      rw [hfi x hx] at hs; cases hs
    | some i =>
      obtain ⟨hi, hs, -⟩ := List.findIdx?_eq_some_iff_getElem.1 hfi
      refine ⟨i, rfl, ?_⟩
      have hm : L[i] ∈ U ++ ([(a, n, nd.owner)] ++ V) := hL.mem_iff.2 (List.getElem_mem hi)
      have he : L[i] = (a, n, nd.owner) := by
        rcases List.mem_append.1 hm with hm | hm
        · have := hUV L[i] (List.mem_append.2 (.inl hm))
          rw [hs] at this; cases this
        · rcases List.mem_append.1 hm with hm | hm
          · exact List.mem_singleton.1 hm
          · have := hUV L[i] (List.mem_append.2 (.inr hm))
            rw [hs] at this; cases this
      have e1 : L = L.take i ++ (a, n, nd.owner) :: L.drop (i + 1) := by
        rw [← he, ← List.drop_eq_getElem_cons hi, List.take_append_drop]
      have p1 : ((a, n, nd.owner) :: (U ++ V)).Perm ((a, n, nd.owner) :: (L.take i ++ L.drop (i + 1))) := by
        refine (List.perm_middle (a := (a, n, nd.owner)) (l₁ := U) (l₂ := V)).symm.trans ?_
        refine (show (U ++ (a, n, nd.owner) :: V).Perm L from hL).trans ?_
        conv => lhs; rw [e1]
        exact List.perm_middle
      have p2 := List.Perm.cons_inv p1
      refine hput many (L.set i (a, n, p)) ?_ (by rw [List.length_set]; exact h.many) (by rw [List.length_set]; exact h.le)
      rw [List.set_eq_take_append_cons_drop, if_pos hi]
      exact (List.perm_middle.trans (p2.cons _)).trans List.perm_middle.symm
  | false =>
    right
    rw [his] at hL
    simp only [Bool.false_eq_true, if_false, List.nil_append] at hL
    have hfi : L.findIdx? (samePre a n) = none := by
      rw [List.findIdx?_eq_none_iff]
      exact fun x hx => hUV x (hL.mem_iff.2 hx)
    by_cases h64 : L.length = 64
    · exact .inl ⟨rfl, hfi, h64, hB⟩
    · refine .inr ⟨rfl, hfi, h64, hput (many + 1) (L ++ [(a, n, p)]) ?_ (by rw [h.many]; simp) (by have := h.le; simp; omega)⟩
      exact (List.perm_middle.trans (hL.cons _)).trans (List.perm_append_singleton _ _).symm
/-! ### Find -/
theorem hasP_nat (a : BitVec 32) (e : Pe) (hn : e.2.1 ≤ 32) : hasP a e = true ↔ e.1.toNat / 2 ^ (32 - e.2.1) = a.toNat / 2 ^ (32 - e.2.1) := by
  rw [hasP_iff a e hn, path_eq_iff _ _ hn]
/-- Beside the way. -/
theorem not_hasP {a : BitVec 32} {e : Pe} {n y : Nat} (hn : n ≤ 32) (he : e.2.1 ≤ 32) (hb : n ≤ e.2.1) (h1 : y ≤ e.1.toNat) (h2 : e.1.toNat < y + 2 ^ (32 - n)) (hd : 2 ^ (32 - n) ∣ y) (ha : a.toNat < y ∨ y + 2 ^ (32 - n) ≤ a.toNat) : hasP a e = false := by
  cases hh : hasP a e with
  | false => rfl
  | true =>
    rw [hasP_nat a e he] at hh
    have hp := Nat.two_pow_pos (32 - n)
    have e1 : 2 ^ (32 - n) = 2 ^ (32 - e.2.1) * 2 ^ (e.2.1 - n) := by rw [← Nat.pow_add]; congr 1; omega
    have e2 : e.1.toNat / 2 ^ (32 - n) = a.toNat / 2 ^ (32 - n) := by rw [e1, ← Nat.div_div_eq_div_mul, ← Nat.div_div_eq_div_mul, hh]
    obtain ⟨d, rfl⟩ := hd
    have e3 : e.1.toNat / 2 ^ (32 - n) = d := Nat.div_eq_of_lt_le (by rw [Nat.mul_comm]; omega) (by rw [Nat.mul_comm, Nat.mul_add]; omega)
    rw [e3] at e2
    have h3 := Nat.div_add_mod a.toNat (2 ^ (32 - n))
    have h4 := Nat.mod_lt a.toNat hp
    rw [← e2] at h3
    omega
theorem has_own {a : BitVec 32} {x n : Nat} (o : Int) (hn : n ≤ 32) (hx : x < 4294967296) (hd : 2 ^ (32 - n) ∣ x) (h1 : x ≤ a.toNat) (h2 : a.toNat < x + 2 ^ (32 - n)) : hasP a (BitVec.ofInt 32 (x : Int), n, o) = true := by
  rw [hasP_nat a _ hn]
  simp only
  rw [ofInt_nat (by omega) (by omega)]
  obtain ⟨d, rfl⟩ := hd
  have hp := Nat.two_pow_pos (32 - n)
  rw [Int.toNat_natCast, Nat.mul_div_cancel_left _ hp]
  exact (Nat.div_eq_of_lt_le (by rw [Nat.mul_comm]; omega) (by rw [Nat.mul_comm, Nat.mul_add]; omega)).symm
/-- The best of three places. -/
theorem find_tail {a : BitVec 32} {nd : Nd} {x n : Nat} {best R : Int × Bool} {N S O : List Pe}
    (hN : ∀ e, e ∈ N ↔ nd.is = true ∧ e = (BitVec.ofInt 32 (x : Int), n, nd.owner)) (hown : ∀ o, hasP a (BitVec.ofInt 32 (x : Int), n, o) = true)
    (hS : ∀ e ∈ S, n < e.2.1) (hO : ∀ e ∈ O, hasP a e = false)
    (i1 : (∀ e ∈ S, hasP a e = false) → R = if nd.is = true then (nd.owner, true) else best)
    (i2 : ∀ e ∈ S, hasP a e = true → (∀ y ∈ S, hasP a y = true → y.2.1 ≤ e.2.1) → R = (e.2.2, true)) :
    ((∀ e, e ∈ N ∨ e ∈ S ∨ e ∈ O → hasP a e = false) → R = best) ∧
    (∀ e, e ∈ N ∨ e ∈ S ∨ e ∈ O → hasP a e = true → (∀ y, y ∈ N ∨ y ∈ S ∨ y ∈ O → hasP a y = true → y.2.1 ≤ e.2.1) → R = (e.2.2, true)) := by
  refine ⟨fun hno => ?_, fun e he hh hm => ?_⟩
  · rw [i1 fun e he => hno e (.inr (.inl he))]
    by_cases his : nd.is = true
    · have := hno _ (.inl ((hN _).2 ⟨his, rfl⟩))
      rw [hown] at this; cases this
    · rw [if_neg his]
  · rcases he with he | he | he
    · obtain ⟨his, rfl⟩ := (hN e).1 he
      rw [i1 fun y hy => ?_, if_pos his]
      cases hy2 : hasP a y with
      | false => rfl
      | true =>
        have h1 := hm y (.inr (.inl hy)) hy2
        have h2 := hS y hy
        simp only at h1
        omega
    · exact i2 e he hh fun y hy hy2 => hm y (.inr (.inl hy)) hy2
    · rw [hO e he] at hh; cases hh
theorem shTop_nil {T : Sh} (h : ∀ j ∈ T.ids, j ≠ 0) : shTop T = 0 ↔ T = .nil := by
  cases T with
  | nil => exact ⟨fun _ => rfl, fun _ => rfl⟩
  | node i l r => exact ⟨fun e => absurd e (h i (by simp [Sh.ids])), fun e => by cases e⟩
theorem bit_side (a : BitVec 32) {x n : Nat} (hn : n ≤ 31) (hd : 2 ^ (32 - n) ∣ x) (h1 : x ≤ a.toNat) (h2 : a.toNat < x + 2 ^ (32 - n)) :
    (bitA a n = false → a.toNat < x + 2 ^ (31 - n)) ∧ (bitA a n = true → x + 2 ^ (31 - n) ≤ a.toNat) := by
  have e := pow_half hn
  have hp := Nat.two_pow_pos (31 - n)
  obtain ⟨d, rfl⟩ := hd
  rw [bitA_eq]
  have e2 : 2 ^ (32 - n) * d = (2 * d) * 2 ^ (31 - n) := by rw [e, Nat.mul_comm, Nat.mul_add, Nat.two_mul, Nat.add_mul]
  have e3 : (2 * d + 1) * 2 ^ (31 - n) = (2 * d) * 2 ^ (31 - n) + 2 ^ (31 - n) := by rw [Nat.add_mul, Nat.one_mul]
  have e4 : (2 * d + 1 + 1) * 2 ^ (31 - n) = (2 * d) * 2 ^ (31 - n) + 2 ^ (31 - n) + 2 ^ (31 - n) := by rw [Nat.add_mul, Nat.one_mul, e3]
  rw [e2, e] at h2
  rw [e2] at h1 ⊢
  have q1 : a.toNat < 2 * d * 2 ^ (31 - n) + 2 ^ (31 - n) → a.toNat / 2 ^ (31 - n) = 2 * d := fun h => Nat.div_eq_of_lt_le h1 (by rw [e3]; exact h)
  have q2 : 2 * d * 2 ^ (31 - n) + 2 ^ (31 - n) ≤ a.toNat → a.toNat / 2 ^ (31 - n) = 2 * d + 1 := fun h => Nat.div_eq_of_lt_le (by rw [e3]; exact h) (by rw [e4]; generalize 2 * d * 2 ^ (31 - n) = q at *; omega)
  generalize 2 * d * 2 ^ (31 - n) = q at *
  by_cases h : a.toNat < q + 2 ^ (31 - n)
  · rw [q1 h]
    refine ⟨fun _ => h, fun k => ?_⟩
    have := of_decide_eq_true k
    omega
  · rw [q2 (by omega)]
    refine ⟨fun k => ?_, fun _ => by omega⟩
    have := of_decide_eq_false k
    omega
end Go.Vm
end
section
namespace Go.Vm
open Go.Proofs
variable {many : Int} {A : List Nd} {l r : Sh} {L : List Pe}
theorem ents_range (A : List Nd) (T : Sh) (x n : Nat) (hh : (n : Int) + T.hgt ≤ 33) (hx : x + 2 ^ (32 - n) ≤ 4294967296) (hd : 2 ^ (32 - n) ∣ x) :
    ∀ e ∈ (walkL (isA A) T (x : Int) (n : Int)).map (toPe A), x ≤ e.1.toNat ∧ e.1.toNat < x + 2 ^ (32 - n) ∧ n ≤ e.2.1 ∧ e.2.1 ≤ 32 := fun e he => by
  obtain ⟨w, hw, rfl⟩ := List.mem_map.1 he
  have := walk_range (isA A) T x n hh hx hd w hw
  unfold toPe
  simp only
  rw [ofInt_nat (by omega) (by omega)]
  omega
theorem findA_nil (A : List Nd) (c : Nat) (best : Int × Bool) : findA A [] c best = if (A.getD c leaf).is = true then ((A.getD c leaf).owner, true) else best := rfl
theorem findA_cons (A : List Nd) (b : Bool) (p : List Bool) (c : Nat) (best : Int × Bool) : findA A (b :: p) c best = if (A.getD c leaf).kid b = 0 then (if (A.getD c leaf).is = true then ((A.getD c leaf).owner, true) else best) else findA A p ((A.getD c leaf).kid b) (if (A.getD c leaf).is = true then ((A.getD c leaf).owner, true) else best) := rfl
theorem find_walk (a : BitVec 32) (A : List Nd) : ∀ (T : Sh) (x n : Nat) (best : Int × Bool), T ≠ .nil → ShIn A T → (n : Int) + T.hgt ≤ 33 → x + 2 ^ (32 - n) ≤ 4294967296 → 2 ^ (32 - n) ∣ x → x ≤ a.toNat → a.toNat < x + 2 ^ (32 - n) →
    ((∀ e ∈ (walkL (isA A) T (x : Int) (n : Int)).map (toPe A), hasP a e = false) → findA A ((pathA a 32).drop n) (shTop T) best = best) ∧
    (∀ e ∈ (walkL (isA A) T (x : Int) (n : Int)).map (toPe A), hasP a e = true → (∀ y ∈ (walkL (isA A) T (x : Int) (n : Int)).map (toPe A), hasP a y = true → y.2.1 ≤ e.2.1) → findA A ((pathA a 32).drop n) (shTop T) best = (e.2.2, true))
  | .nil, _, _, _, h, _, _, _, _, _, _ => absurd rfl h
  | .node i l r, x, n, best, _, hS, hh, hx, hd, ha1, ha2 => by
    obtain ⟨⟨nd, h1, h2, h3⟩, h4, h5, h6, h7⟩ := hS
    have hgd := getD_of h1
    have hp := Nat.two_pow_pos (32 - n)
    have hown : ∀ o, n ≤ 32 → hasP a (BitVec.ofInt 32 (x : Int), n, o) = true := fun o hn => has_own o hn (by omega) hd ha1 ha2
    have hN : ∀ e, e ∈ (if isA A i = true then [((x : Int), (n : Int), i)] else []).map (toPe A) ↔ nd.is = true ∧ e = (BitVec.ofInt 32 (x : Int), n, nd.owner) := fun e => by
      unfold isA
      rw [hgd]
      split
      · rename_i hi
        rw [List.map_cons, List.map_nil, List.mem_singleton]
        unfold toPe
        simp only [hgd, Int.toNat_natCast]
        exact ⟨fun h => ⟨hi, h⟩, fun h => h.2⟩
      · rename_i hi
        exact ⟨fun h => (by cases h), fun h => absurd h.1 hi⟩
    have hg := Sh.hgt_node i l r (m := 33 - (n : Int)) (by omega)
    have htop : shTop (.node i l r) = i := rfl
    rw [htop]
    rcases walk_node (isA A) i l r hh hx hd with ⟨hn, -, -, hw⟩ | ⟨hn, hw⟩
    · have hdr : (pathA a 32).drop n = [] := List.drop_of_length_le (by rw [pathA_length]; omega)
      rw [hw, hdr, findA_nil, hgd]
      have := find_tail (R := if nd.is = true then (nd.owner, true) else best) (best := best) (S := []) (O := []) hN (fun o => hown o (by omega)) (by simp) (by simp) (fun _ => rfl) (by simp)
      simpa using this
    · rw [hw, pathA_drop a (by omega), findA_cons, hgd]
      obtain ⟨g1, g2, g3, g4, g5⟩ := room hn hx hd
      have e2 : 32 - (n + 1) = 31 - n := by omega
      have hl := ents_range A l x (n + 1) (by omega) g2 g3
      have hr := ents_range A r (x + 2 ^ (31 - n)) (n + 1) (by omega) g4 g5
      have hside := bit_side a hn hd ha1 ha2
      have hpw := pow_half hn
      cases hb : bitA a n with
      | false =>
        have hs := hside.1 hb
        have hk : nd.kid false = shTop l := h2
        rw [hk]
        have ih := find_walk a A l x (n + 1) (if nd.is = true then (nd.owner, true) else best)
        have key := find_tail (R := if shTop l = 0 then (if nd.is = true then (nd.owner, true) else best) else findA A ((pathA a 32).drop (n + 1)) (shTop l) (if nd.is = true then (nd.owner, true) else best)) (best := best)
          (S := (walkL (isA A) l (x : Int) ((n + 1 : Nat) : Int)).map (toPe A)) (O := (walkL (isA A) r ((x + 2 ^ (31 - n) : Nat) : Int) ((n + 1 : Nat) : Int)).map (toPe A))
          hN (fun o => hown o (by omega)) (fun e he => by have := hl e he; omega)
          (fun e he => by
            have := hr e he
            exact not_hasP (n := n + 1) (by omega) this.2.2.2 this.2.2.1 this.1 this.2.1 g5 (by rw [e2]; omega))
          (fun hno => by
            by_cases hz : shTop l = 0
            · rw [if_pos hz]
            · rw [if_neg hz]
              exact (ih (fun e => hz (by rw [e]; rfl)) h6 (by omega) g2 g3 (by omega) (by rw [e2]; omega)).1 hno)
          (fun e he hh2 hm => by
            by_cases hz : shTop l = 0
            · rw [(shTop_nil h4).1 hz] at he
              simp [walkL] at he
            · rw [if_neg hz]
              exact (ih (fun e => hz (by rw [e]; rfl)) h6 (by omega) g2 g3 (by omega) (by rw [e2]; omega)).2 e he hh2 hm)
        refine ⟨fun hno => key.1 fun e he => hno e ?_, fun e he hh2 hm => key.2 e ?_ hh2 fun y hy => hm y ?_⟩
        · rw [List.map_append, List.map_append, List.mem_append, List.mem_append]
          exact he
        · rw [List.map_append, List.map_append, List.mem_append, List.mem_append] at he
          exact he
        · rw [List.map_append, List.map_append, List.mem_append, List.mem_append]
          exact hy
      | true =>
        have hs := hside.2 hb
        have hk : nd.kid true = shTop r := h3
        rw [hk]
        have ih := find_walk a A r (x + 2 ^ (31 - n)) (n + 1) (if nd.is = true then (nd.owner, true) else best)
        have key := find_tail (R := if shTop r = 0 then (if nd.is = true then (nd.owner, true) else best) else findA A ((pathA a 32).drop (n + 1)) (shTop r) (if nd.is = true then (nd.owner, true) else best)) (best := best)
          (S := (walkL (isA A) r ((x + 2 ^ (31 - n) : Nat) : Int) ((n + 1 : Nat) : Int)).map (toPe A)) (O := (walkL (isA A) l (x : Int) ((n + 1 : Nat) : Int)).map (toPe A))
          hN (fun o => hown o (by omega)) (fun e he => by have := hr e he; omega)
          (fun e he => by
            have := hl e he
            exact not_hasP (n := n + 1) (by omega) this.2.2.2 this.2.2.1 this.1 this.2.1 g3 (by rw [e2]; omega))
          (fun hno => by
            by_cases hz : shTop r = 0
            · rw [if_pos hz]
            · rw [if_neg hz]
              exact (ih (fun e => hz (by rw [e]; rfl)) h7 (by omega) g4 g5 (by omega) (by rw [e2]; omega)).1 hno)
          (fun e he hh2 hm => by
            by_cases hz : shTop r = 0
            · rw [(shTop_nil h5).1 hz] at he
              simp [walkL] at he
            · rw [if_neg hz]
              exact (ih (fun e => hz (by rw [e]; rfl)) h7 (by omega) g4 g5 (by omega) (by rw [e2]; omega)).2 e he hh2 hm)
        refine ⟨fun hno => key.1 fun e he => hno e ?_, fun e he hh2 hm => key.2 e ?_ hh2 fun y hy => hm y ?_⟩
        · rw [List.map_append, List.map_append, List.mem_append, List.mem_append]
          exact he.elim .inl fun h => .inr h.symm
        · rw [List.map_append, List.map_append, List.mem_append, List.mem_append] at he
          exact he.elim .inl fun h => .inr h.symm
        · rw [List.map_append, List.map_append, List.mem_append, List.mem_append]
          exact hy.elim .inl fun h => .inr h.symm
/-- Table and list find the same. -/
theorem TInv.find (h : TInv many A l r L) (a : BitVec 32) (R : Int × Bool) (hR : findA A (pathA a 32) 0 (0, false) = R) :
    ((∀ x ∈ L, hasP a x = false) → R = (0, false)) ∧ (∀ e ∈ L, hasP a e = true → (∀ x ∈ L, hasP a x = true → x.2.1 ≤ e.2.1) → R = (e.2.2, true)) := by
  have hw := find_walk a A (.node 0 l r) 0 0 (0, false) (by simp) h.sh (by have := h.hgt; omega) top_room.1 top_room.2 (Nat.zero_le _) (by have := a.isLt; simpa using this)
  rw [List.drop_zero, show shTop (.node 0 l r) = 0 from rfl, hR] at hw
  have hm : ∀ e, e ∈ L ↔ e ∈ (walkL (isA A) (.node 0 l r) 0 0).map (toPe A) := fun e => h.ent.symm.mem_iff
  exact ⟨fun hno => hw.1 fun e he => hno e ((hm e).2 he), fun e he hh hmax => hw.2 e ((hm e).1 he) hh fun y hy => hmax y ((hm y).2 hy)⟩
theorem exists_max {q : Pe → Bool} : ∀ (L : List Pe), (∃ e ∈ L, q e = true) → ∃ e ∈ L, q e = true ∧ ∀ x ∈ L, q x = true → x.2.1 ≤ e.2.1
  | [], h => by obtain ⟨e, he, _⟩ := h; cases he
  | y :: L, h => by
    by_cases hL : ∃ e ∈ L, q e = true
    · obtain ⟨e, he, hq, hm⟩ := exists_max L hL
      by_cases hy : q y = true ∧ e.2.1 < y.2.1
      · refine ⟨y, by simp, hy.1, fun x hx hqx => ?_⟩
        rcases List.mem_cons.1 hx with rfl | hx
        · exact Nat.le_refl _
        · have := hm x hx hqx; omega
      · refine ⟨e, by simp [he], hq, fun x hx hqx => ?_⟩
        rcases List.mem_cons.1 hx with rfl | hx
        · rcases Nat.lt_or_ge e.2.1 x.2.1 with h | h
          · exact absurd ⟨hqx, h⟩ hy
          · exact h
        · exact hm x hx hqx
    · obtain ⟨e, he, hq⟩ := h
      rcases List.mem_cons.1 he with rfl | he
      · refine ⟨e, by simp, hq, fun x hx hqx => ?_⟩
        rcases List.mem_cons.1 hx with rfl | hx
        · exact Nat.le_refl _
        · exact absurd ⟨x, hx, hqx⟩ hL
      · exact absurd ⟨e, he, hq⟩ hL
end Go.Vm
end
