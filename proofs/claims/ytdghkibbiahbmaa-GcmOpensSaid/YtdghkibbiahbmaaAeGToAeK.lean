/- A part of the proof: laws of a small machine of values, or what one function answers, proved against the model; no conditions beyond those in each theorem. -/
import Derived.Test.YtdghkibbiahbmaaShelfRepToAeF
set_option linter.unusedVariables false
set_option linter.unusedSimpArgs false
set_option linter.unusedSectionVars false
section
namespace Go.Vm
open Go.Proofs Go.RowKit
theorem Join_at (us : List (List (BitVec 8))) (o k : Nat) (ws : List (List (BitVec 8))) (hws : ws = (us.drop o).take k) (hok : o + k ≤ us.length) (h0 : 0 < k) (hl : k ≤ 1000) (hf : ws.flatten.length ≤ 100000) : Spec0 Try.prog 57 [.slice 0 o k 1, .str []] [some ⟨false, us.map .str⟩] (.str ws.flatten) [some ⟨false, us.map .str⟩] := by
  have hwl : ws.length = k := by rw [hws, List.length_take, List.length_drop]; omega
  have hat : ∀ j : Nat, j < k → ws[j]? = us[o + j]? := fun j hj => by rw [hws, List.getElem?_take_of_lt hj, List.getElem?_drop]
  refine spec0_of_below (by simp [V.low]) fun ρ w rargs hr hm => ?_
  unfold VRs at hr
  obtain ⟨r1, rs, e1, h1, hr⟩ := hr
  unfold VRs at hr
  obtain ⟨r2, rs2, e2, h2, hr⟩ := hr
  unfold VRs at hr
  unfold VR at h1 h2
  obtain ⟨_, a, cap, rfl, hcap, ha⟩ := h1
  obtain ⟨b, rfl, hb⟩ := h2
  subst hr e2
  have har : rargs = #[.slice (some a) k cap, .string b] := by cases rargs; simp_all
  subst har
  have hb0 : b = ⟨#[]⟩ := bytesOf_inj hb
  subst hb0
  obtain ⟨ha, hth⟩ := ha (by omega)
  subst ha
  have hB : getH [some (⟨false, us.map V.str⟩ : Blk)] 0 = some ⟨false, us.map V.str⟩ := rfl
  have hcells : ∀ (j : Nat) x, (ws.map strOf)[j]? = some x → w.cell? ⟨(ρ 0).1, (ρ 0).2 + o + j, none⟩ = some (.string x) := by
    intro j x hx
    rw [List.getElem?_map] at hx
    obtain ⟨s, hs, rfl⟩ := Option.map_eq_some_iff.1 hx
    have hjk : j < k := by
      have := (List.getElem?_eq_some_iff.1 hs).1
      omega
    rw [hat j hjk] at hs
    obtain ⟨r, g1, g2⟩ := hm.cell 0 _ hB (o + j) (.str s) (by rw [List.getElem?_map, hs]; rfl)
    unfold VR at g2
    obtain ⟨c, rfl, hc⟩ := g2
    rw [Nat.add_assoc, g1, ← hc, strOf_bytesOf]
  have hfl := flat_of ws
  have hlen := congrArg List.length hfl
  rw [List.length_map] at hlen
  have hj := shelf_strings_Join (ρ 0).1 ((ρ 0).2 + o) cap (ws.map strOf) ⟨#[]⟩ w hcells (hm.lt 0 _ hB) (by rw [List.length_map]; omega) (by rw [List.length_map, hwl]; exact hcap) (by
    rw [show (⟨#[]⟩ : ByteArray).data.toList = [] from rfl, join_flat, hlen]; omega)
  rw [List.length_map, hwl, show (⟨#[]⟩ : ByteArray).data.toList = [] from rfl, join_flat] at hj
  refine hj.mono ?_
  rintro e w' ⟨rfl, hbl⟩
  refine ⟨_, rfl, ?_, hbl⟩
  unfold VR
  exact ⟨_, rfl, hfl⟩
theorem flat_dropAll (l : List (List (BitVec 8))) (h4 : ∀ w ∈ l, w.length = 4) (a : Nat) : (l.drop a).flatten = l.flatten.drop (4 * a) := by
  induction l generalizing a with
  | nil => simp
  | cons x l ih =>
    have hx := h4 x (by simp)
    cases a with
    | zero => rfl
    | succ a =>
      rw [List.drop_succ_cons, ih (fun w hw => h4 w (by simp [hw])), List.flatten_cons, show 4 * (a + 1) = 4 + 4 * a by omega, ← List.drop_drop]
      rw [← hx, List.drop_left]
theorem flat_takeAll (l : List (List (BitVec 8))) (h4 : ∀ w ∈ l, w.length = 4) (a : Nat) : (l.take a).flatten = l.flatten.take (4 * a) := by
  induction l generalizing a with
  | nil => simp
  | cons x l ih =>
    have hx := h4 x (by simp)
    cases a with
    | zero => rfl
    | succ a =>
      rw [List.take_succ_cons, List.flatten_cons, ih (fun w hw => h4 w (by simp [hw])), List.flatten_cons, show 4 * (a + 1) = x.length + 4 * a by omega, List.take_length_add_append]
theorem key_spec (us : List (List (BitVec 8))) (S : List (BitVec 8)) (i m : Nat) (hm : us.length = m) (hml : m ≤ 1000) (hi : 4 * i + 4 ≤ m) (h4 : ∀ w ∈ us, w.length = 4) : Spec0 Try.prog 96 [.agg [.slice 0 0 256 1, .slice 1 0 m 1], .i64 i] [some ⟨false, S.map .u8⟩, some ⟨false, us.map .str⟩] (.str ((us.flatten.drop (16 * i)).take 16)) [some ⟨false, S.map .u8⟩, some ⟨false, us.map .str⟩] := by
  have m1 : w64 (4 * (i : Int)) = ((4 * i : Nat) : Int) := by rw [w64_of (by omega) (by omega)]; omega
  have m2 : w64 (((4 * i : Nat) : Int) + 4) = ((4 * i + 4 : Nat) : Int) := by rw [w64_of (by omega) (by omega)]; omega
  have m3 : (((4 * i + 4 : Nat) : Int) - ((4 * i : Nat) : Int)).toNat = 4 := by omega
  have m4 : (0 : Int) ≤ ((4 * i : Nat) : Int) := by omega
  have m5 : ((4 * i : Nat) : Int) ≤ ((4 * i + 4 : Nat) : Int) := by omega
  have m6 : ((4 * i + 4 : Nat) : Int) ≤ (m : Int) := by omega
  have hfl : ((us.drop (4 * i)).take 4).flatten = (us.flatten.drop (16 * i)).take 16 := by
    rw [flat_takeAll _ (fun w hw => h4 w (List.mem_of_mem_drop hw)), flat_dropAll us h4, show 4 * (4 * i) = 16 * i by omega]
  have hj := Join_at us (4 * i) 4 _ rfl (by omega) (by decide) (by decide) (by rw [hfl, List.length_take]; omega)
  rw [hfl] at hj
  refine spec0_of_vc (by kernel_rfl) (fn := Try.f96) Try.func96 rfl (by show 2 ≤ 14; decide) (go_start ?_)
  simp only [go_sem, ↓reduceIte, Nat.reduceEqDiff, Nat.reduceLT, Nat.reduceLeDiff, Nat.reduceAdd, Nat.reduceSub, Nat.reduceMul, Nat.reduceMod, Nat.reduceDiv, Int.reduceLE, Int.reduceLT, Int.reduceToNat, Int.reduceAdd, Int.reduceSub, Int.reduceMul, Int.reduceEq, Int.reduceNeg, BitVec.reduceOfInt, BitVec.reduceToNat, BitVec.reduceEq, BitVec.reduceNe, BitVec.reduceLT, reduceCtorEq, List.forall_mem_nil, Try.ntmps96, Try.results96, m1, m2, m3, m4, m5, m6]
  refine goCall_mem [1] (hj) (by kernel_rfl) (by simp [-List.map_map, -List.map_set, vtuple_zero, rens_append, lows_append, sgOf_zero, sgOf_succ, rens, V.ren, lows, V.low, rens_u8, rens_u32, rens_u64, rens_i64, rens_str, lows_u8, lows_u32, lows_u64, lows_i64, lows_str, allSome, allRw, blksOk_nil, blksOk_none, blksOk_some, getH_zero, getH_succ, getH_nil]) rfl (by simp [-List.map_map, -List.map_set, vtuple_zero, rens_append, lows_append, sgOf_zero, sgOf_succ, rens, V.ren, lows, V.low, rens_u8, rens_u32, rens_u64, rens_i64, rens_str, lows_u8, lows_u32, lows_u64, lows_i64, lows_str, allSome, allRw, blksOk_nil, blksOk_none, blksOk_some, getH_zero, getH_succ, getH_nil]) (by decide) (by simp [-List.map_map, -List.map_set, vtuple_zero, rens_append, lows_append, sgOf_zero, sgOf_succ, rens, V.ren, lows, V.low, rens_u8, rens_u32, rens_u64, rens_i64, rens_str, lows_u8, lows_u32, lows_u64, lows_i64, lows_str, allSome, allRw, blksOk_nil, blksOk_none, blksOk_some, getH_zero, getH_succ, getH_nil]) (by simp [-List.map_map, -List.map_set, vtuple_zero, rens_append, lows_append, sgOf_zero, sgOf_succ, rens, V.ren, lows, V.low, rens_u8, rens_u32, rens_u64, rens_i64, rens_str, lows_u8, lows_u32, lows_u64, lows_i64, lows_str, allSome, allRw, blksOk_nil, blksOk_none, blksOk_some, getH_zero, getH_succ, getH_nil]) (by simp [-List.map_map, -List.map_set, vtuple_zero, rens_append, lows_append, sgOf_zero, sgOf_succ, rens, V.ren, lows, V.low, rens_u8, rens_u32, rens_u64, rens_i64, rens_str, lows_u8, lows_u32, lows_u64, lows_i64, lows_str, allSome, allRw, blksOk_nil, blksOk_none, blksOk_some, getH_zero, getH_succ, getH_nil]) (by simp [-List.map_map, -List.map_set, vtuple_zero, rens_append, lows_append, sgOf_zero, sgOf_succ, rens, V.ren, lows, V.low, rens_u8, rens_u32, rens_u64, rens_i64, rens_str, lows_u8, lows_u32, lows_u64, lows_i64, lows_str, allSome, allRw, blksOk_nil, blksOk_none, blksOk_some, getH_zero, getH_succ, getH_nil]) (by simp) ?_
  simp only [go_sem, ↓reduceIte, Nat.reduceEqDiff, Nat.reduceLT, Nat.reduceLeDiff, Nat.reduceAdd, Nat.reduceSub, Nat.reduceMul, Nat.reduceMod, Nat.reduceDiv, Int.reduceLE, Int.reduceLT, Int.reduceToNat, Int.reduceAdd, Int.reduceSub, Int.reduceMul, Int.reduceEq, Int.reduceNeg, BitVec.reduceOfInt, BitVec.reduceToNat, BitVec.reduceEq, BitVec.reduceNe, BitVec.reduceLT, reduceCtorEq, List.forall_mem_nil]
  exact Fin.ren [0, 1] (by simp) (by simp) (by rfl) (by decide) (by simp [-List.map_map, -List.map_set, vtuple_zero, rens_append, lows_append, sgOf_zero, sgOf_succ, rens, V.ren, lows, V.low, rens_u8, rens_u32, rens_u64, rens_i64, rens_str, lows_u8, lows_u32, lows_u64, lows_i64, lows_str, allSome, allRw, blksOk_nil, blksOk_none, blksOk_some, getH_zero, getH_succ, getH_nil]) (by simp [-List.map_map, -List.map_set, vtuple_zero, rens_append, lows_append, sgOf_zero, sgOf_succ, rens, V.ren, lows, V.low, rens_u8, rens_u32, rens_u64, rens_i64, rens_str, lows_u8, lows_u32, lows_u64, lows_i64, lows_str, allSome, allRw, blksOk_nil, blksOk_none, blksOk_some, getH_zero, getH_succ, getH_nil])
/-! The steps on a block of 16 bytes. -/
theorem add_spec (s k : List (BitVec 8)) (hs : s.length = 16) (hk : 16 ≤ k.length) (hk2 : k.length ≤ 1000) : Spec0 Try.prog 92 [.ptr 0 0, .str k] [some ⟨false, s.map .u8⟩] (.tup []) [some ⟨false, (xorB s k).map .u8⟩] := by
  have hx := Xor_spec s k (by omega) (by omega)
  have hl : (xorB s k).length = 16 := by rw [xorB_length]; omega
  have hsp : splice (s.map V.u8) 0 (List.take 16 (List.map V.u8 (xorB s k))) = (xorB s k).map V.u8 := by rw [List.take_of_length_le (by rw [List.length_map, hl]; exact Nat.le_refl _), splice_all _ _ (by rw [List.length_map, List.length_map, hl, hs])]
  refine spec0_of_vc (by kernel_rfl) (fn := Try.f92) Try.func92 rfl (by show 2 ≤ 14; decide) (go_start ?_)
  simp only [go_sem, ↓reduceIte, Nat.reduceEqDiff, Nat.reduceLT, Nat.reduceLeDiff, Nat.reduceAdd, Nat.reduceSub, Nat.reduceMul, Nat.reduceMod, Nat.reduceDiv, Int.reduceLE, Int.reduceLT, Int.reduceToNat, Int.reduceAdd, Int.reduceSub, Int.reduceMul, Int.reduceEq, Int.reduceNeg, BitVec.reduceOfInt, BitVec.reduceToNat, BitVec.reduceEq, BitVec.reduceNe, BitVec.reduceLT, reduceCtorEq, List.forall_mem_nil, Try.ntmps92, Try.results92, hs, List.take_of_length_le]
  refine goCallD_pure0 (hx) ?_
  simp only [go_sem, ↓reduceIte, Nat.reduceEqDiff, Nat.reduceLT, Nat.reduceLeDiff, Nat.reduceAdd, Nat.reduceSub, Nat.reduceMul, Nat.reduceMod, Nat.reduceDiv, Int.reduceLE, Int.reduceLT, Int.reduceToNat, Int.reduceAdd, Int.reduceSub, Int.reduceMul, Int.reduceEq, Int.reduceNeg, BitVec.reduceOfInt, BitVec.reduceToNat, BitVec.reduceEq, BitVec.reduceNe, BitVec.reduceLT, reduceCtorEq, List.forall_mem_nil, hl, hs]
  refine ⟨by kernel_rfl, ?_⟩
  exact Fin.ren [0] (by simp) (by simp) (by rfl) (by decide) (by simp [-List.map_map, -List.map_set, vtuple_zero, rens_append, lows_append, sgOf_zero, sgOf_succ, rens, V.ren, lows, V.low, rens_u8, rens_u32, rens_u64, rens_i64, rens_str, lows_u8, lows_u32, lows_u64, lows_i64, lows_str, allSome, allRw, blksOk_nil, blksOk_none, blksOk_some, getH_zero, getH_succ, getH_nil, hsp]) (by simp [-List.map_map, -List.map_set, vtuple_zero, rens_append, lows_append, sgOf_zero, sgOf_succ, rens, V.ren, lows, V.low, rens_u8, rens_u32, rens_u64, rens_i64, rens_str, lows_u8, lows_u32, lows_u64, lows_i64, lows_str, allSome, allRw, blksOk_nil, blksOk_none, blksOk_some, getH_zero, getH_succ, getH_nil, hsp])
/-- The first i of one list, the others of another. -/
def mixT (a b : List (BitVec 8)) (i : Nat) : List (BitVec 8) := a.take i ++ b.drop i
theorem mixT_length (a b : List (BitVec 8)) (i : Nat) (h : a.length = b.length) : (mixT a b i).length = b.length := by
  unfold mixT; rw [List.length_append, List.length_take, List.length_drop]; omega
theorem mixT_next (a b : List (BitVec 8)) (i : Nat) (h : a.length = b.length) (hi : i < b.length) : (mixT a b i).set i (a.getD i 0) = mixT a b (i + 1) := by
  unfold mixT
  rw [List.set_append_right _ _ (by rw [List.length_take]; omega), List.length_take, show i - min i a.length = 0 by omega, List.drop_eq_getElem_cons hi, List.set_cons_zero, take_snoc (by omega), List.append_assoc]; rfl
theorem mixT_at (a b : List (BitVec 8)) (i k : Nat) (h : a.length = b.length) (hk : i ≤ k) (hkb : k < b.length) : (mixT a b i).getD k 0 = b.getD k 0 := by
  unfold mixT
  rw [List.getD_eq_getElem?_getD, List.getElem?_append_right (by rw [List.length_take]; omega), List.length_take, List.getElem?_drop, show i + (k - min i a.length) = k by omega, ← List.getD_eq_getElem?_getD]
theorem mixT_all (a b : List (BitVec 8)) (h : a.length = b.length) : mixT a b b.length = a := by
  unfold mixT; rw [List.drop_length, List.append_nil, ← h, List.take_length]
theorem getD_mapB (f : BitVec 8 → BitVec 8) (s : List (BitVec 8)) (i : Nat) (h : i < s.length) : (s.map f).getD i 0 = f (s.getD i 0) := by
  rw [List.getD_eq_getElem?_getD, List.getD_eq_getElem?_getD, List.getElem?_map, List.getElem?_eq_getElem h]; rfl
theorem through_spec (s T : List (BitVec 8)) (o : Nat) (f : BitVec 8 → BitVec 8) (hs : s.length = 16) (hT : T.length = 512) (ho : o ≤ 256) (hf : ∀ b : BitVec 8, T.getD (o + b.toNat) 0 = f b) : Spec0 Try.prog 93 [.ptr 0 0, .ptr 1 o] [some ⟨false, s.map .u8⟩, some ⟨false, T.map .u8⟩] (.tup []) [some ⟨false, (s.map f).map .u8⟩, some ⟨false, T.map .u8⟩] := by
  have hf' : ∀ b : BitVec 8, (T.map V.u8).getD (o + b.toNat) .junk = .u8 (f b) := fun b => by rw [getD_u8 (by have := b.isLt; omega), hf]
  have hb1 : ∀ b : BitVec 8, (b.toNat : Int) < 256 := fun b => by have := b.isLt; omega
  have hb2 : ∀ b : BitVec 8, (0 : Int) ≤ (b.toNat : Int) := fun b => by omega
  have hb3 : ∀ b : BitVec 8, o + b.toNat < 512 := fun b => by have := b.isLt; omega
  have hml : (s.map f).length = s.length := List.length_map ..
  refine spec0_of_vc (by kernel_rfl) (fn := Try.f93) Try.func93 rfl (by show 2 ≤ 23; decide) (go_start ?_)
  simp only [go_sem, ↓reduceIte, Nat.reduceEqDiff, Nat.reduceLT, Nat.reduceLeDiff, Nat.reduceAdd, Nat.reduceSub, Nat.reduceMul, Nat.reduceMod, Nat.reduceDiv, Int.reduceLE, Int.reduceLT, Int.reduceToNat, Int.reduceAdd, Int.reduceSub, Int.reduceMul, Int.reduceEq, Int.reduceNeg, BitVec.reduceOfInt, BitVec.reduceToNat, BitVec.reduceEq, BitVec.reduceNe, BitVec.reduceLT, reduceCtorEq, List.forall_mem_nil, Try.ntmps93, Try.results93]
  refine go_loop (fun ji st => ∃ i : Nat, i + ji = 16 ∧ st = ⟨[(0, .ptr 0 0), (1, .ptr 1 o), (6, .ptr 0 0), (7, .i64 i)], [some ⟨false, (mixT (s.map f) s i).map .u8⟩, some ⟨false, T.map .u8⟩]⟩) ?_ ?_
  · exact start_mk (16) ⟨[(0, .ptr 0 0), (1, .ptr 1 o), (6, .ptr 0 0), (7, .i64 (0 : Nat))], [some ⟨false, (mixT (s.map f) s (0 : Nat)).map .u8⟩, some ⟨false, T.map .u8⟩]⟩ (by simp [St.get, lookS, -List.map_set, -List.map_map, mixT]) rfl (fun _ _ h => h) ⟨0, by omega, rfl⟩
  rintro ji st ⟨i, hi, rfl⟩ _
  simp only [go_sem, ↓reduceIte, Nat.reduceEqDiff, Nat.reduceLT, Nat.reduceLeDiff, Nat.reduceAdd, Nat.reduceSub, Nat.reduceMul, Nat.reduceMod, Nat.reduceDiv, Int.reduceLE, Int.reduceLT, Int.reduceToNat, Int.reduceAdd, Int.reduceSub, Int.reduceMul, Int.reduceEq, Int.reduceNeg, BitVec.reduceOfInt, BitVec.reduceToNat, BitVec.reduceEq, BitVec.reduceNe, BitVec.reduceLT, reduceCtorEq, List.forall_mem_nil]
  have hl := mixT_length (s.map f) s i hml
  rw [hs] at hl
  by_cases h0 : i < 16
  · have h0' : (i : Int) < 16 := by omega
    have zi : (0 : Int) ≤ (i : Int) := by omega
    have ki : i < (mixT (s.map f) s i).length := by omega
    have ha := mixT_at (s.map f) s i i hml (Nat.le_refl _) (by omega)
    have hn := mixT_next (s.map f) s i hml (by omega)
    rw [getD_mapB f s i (by omega)] at hn
    simp only [go_sem, ↓reduceIte, Nat.reduceEqDiff, Nat.reduceLT, Nat.reduceLeDiff, Nat.reduceAdd, Nat.reduceSub, Nat.reduceMul, Nat.reduceMod, Nat.reduceDiv, Int.reduceLE, Int.reduceLT, Int.reduceToNat, Int.reduceAdd, Int.reduceSub, Int.reduceMul, Int.reduceEq, Int.reduceNeg, BitVec.reduceOfInt, BitVec.reduceToNat, BitVec.reduceEq, BitVec.reduceNe, BitVec.reduceLT, reduceCtorEq, List.forall_mem_nil, h0', h0, zi, hl, hT, getD_u8 ki, ha, hf', hb1, hb2, hb3, hn]
    refine ⟨by kernel_rfl, by omega, by kernel_rfl, ?_⟩
    refine again_mk (ji - 1) ⟨[(0, .ptr 0 0), (1, .ptr 1 o), (6, .ptr 0 0), (7, .i64 (i + 1 : Nat))], [some ⟨false, (mixT (s.map f) s (i + 1 : Nat)).map .u8⟩, some ⟨false, T.map .u8⟩]⟩ (by omega) ?_ rfl (fun _ _ h => h) ⟨i + 1, by omega, rfl⟩
    have hw1 : w64 ((i : Int) + 1) = ((i + 1 : Nat) : Int) := by rw [w64_of (by omega) (by omega)]; omega
    simp [St.get, lookS, hw1, -List.map_set, -List.map_map, List.length_nil]
  · obtain rfl : i = 16 := by omega
    have h0' : ¬ ((16 : Nat) : Int) < 16 := by omega
    have he := mixT_all (s.map f) s hml
    rw [hs] at he
    simp only [go_sem, ↓reduceIte, Nat.reduceEqDiff, Nat.reduceLT, Nat.reduceLeDiff, Nat.reduceAdd, Nat.reduceSub, Nat.reduceMul, Nat.reduceMod, Nat.reduceDiv, Int.reduceLE, Int.reduceLT, Int.reduceToNat, Int.reduceAdd, Int.reduceSub, Int.reduceMul, Int.reduceEq, Int.reduceNeg, BitVec.reduceOfInt, BitVec.reduceToNat, BitVec.reduceEq, BitVec.reduceNe, BitVec.reduceLT, reduceCtorEq, List.forall_mem_nil, h0', he]
    exact Fin.ren [0, 1] (by simp) (by simp) (by rfl) (by decide) (by simp [-List.map_map, -List.map_set, vtuple_zero, rens_append, lows_append, sgOf_zero, sgOf_succ, rens, V.ren, lows, V.low, rens_u8, rens_u32, rens_u64, rens_i64, rens_str, lows_u8, lows_u32, lows_u64, lows_i64, lows_str, allSome, allRw, blksOk_nil, blksOk_none, blksOk_some, getH_zero, getH_succ, getH_nil]) (by simp [-List.map_map, -List.map_set, vtuple_zero, rens_append, lows_append, sgOf_zero, sgOf_succ, rens, V.ren, lows, V.low, rens_u8, rens_u32, rens_u64, rens_i64, rens_str, lows_u8, lows_u32, lows_u64, lows_i64, lows_str, allSome, allRw, blksOk_nil, blksOk_none, blksOk_some, getH_zero, getH_succ, getH_nil])
def mk16 (f : Nat → BitVec 8) : List (BitVec 8) := (List.range 16).map f
theorem mk16_length (f : Nat → BitVec 8) : (mk16 f).length = 16 := by unfold mk16; rw [List.length_map, List.length_range]
theorem mk16_getD (f : Nat → BitVec 8) (i : Nat) (h : i < 16) : (mk16 f).getD i 0 = f i := by
  unfold mk16
  rw [List.getD_eq_getElem?_getD, List.getElem?_map, List.getElem?_range h]; rfl
def rowsB (k : Nat) (s : List (BitVec 8)) : List (BitVec 8) := mk16 fun i => s.getD (i % 4 + 4 * ((i / 4 + k * (i % 4)) % 4)) 0
theorem rows_spec (s : List (BitVec 8)) (k : Nat) (hs : s.length = 16) (hk : k ≤ 3) : Spec0 Try.prog 94 [.ptr 0 0, .i64 k] [some ⟨false, s.map .u8⟩] (.tup []) [some ⟨false, (rowsB k s).map .u8⟩] := by
  have hml : (rowsB k s).length = s.length := by rw [hs]; exact mk16_length _
  have hsp : ∀ z : List V, z.length = 16 → splice z 0 (s.map V.u8) = s.map V.u8 := fun z hz => splice_all _ _ (by rw [List.length_map, hs, hz])
  have hsp' := hsp [.u8 0#8, .u8 0#8, .u8 0#8, .u8 0#8, .u8 0#8, .u8 0#8, .u8 0#8, .u8 0#8, .u8 0#8, .u8 0#8, .u8 0#8, .u8 0#8, .u8 0#8, .u8 0#8, .u8 0#8, .u8 0#8] rfl
  have htk : List.take 16 (s.map V.u8) = s.map V.u8 := List.take_of_length_le (by rw [List.length_map, hs]; exact Nat.le_refl _)
  refine spec0_of_vc (by kernel_rfl) (fn := Try.f94) Try.func94 rfl (by show 2 ≤ 34; decide) (go_start ?_)
  simp only [go_sem, ↓reduceIte, Nat.reduceEqDiff, Nat.reduceLT, Nat.reduceLeDiff, Nat.reduceAdd, Nat.reduceSub, Nat.reduceMul, Nat.reduceMod, Nat.reduceDiv, Int.reduceLE, Int.reduceLT, Int.reduceToNat, Int.reduceAdd, Int.reduceSub, Int.reduceMul, Int.reduceEq, Int.reduceNeg, BitVec.reduceOfInt, BitVec.reduceToNat, BitVec.reduceEq, BitVec.reduceNe, BitVec.reduceLT, reduceCtorEq, List.forall_mem_nil, Try.ntmps94, Try.results94, hs, htk, hsp']
  refine go_loop (fun ji st => ∃ i : Nat, i + ji = 16 ∧ st = ⟨[(0, .ptr 0 0), (1, .i64 k), (4, .ptr 1 0), (11, .i64 i)], [some ⟨false, (mixT (rowsB k s) s i).map .u8⟩, some ⟨false, s.map .u8⟩]⟩) ?_ ?_
  · exact start_mk (16) ⟨[(0, .ptr 0 0), (1, .i64 k), (4, .ptr 1 0), (11, .i64 (0 : Nat))], [some ⟨false, (mixT (rowsB k s) s (0 : Nat)).map .u8⟩, some ⟨false, s.map .u8⟩]⟩ (by simp [St.get, lookS, -List.map_set, -List.map_map, mixT]) rfl (fun _ _ h => h) ⟨0, by omega, rfl⟩
  rintro ji st ⟨i, hi, rfl⟩ _
  simp only [go_sem, ↓reduceIte, Nat.reduceEqDiff, Nat.reduceLT, Nat.reduceLeDiff, Nat.reduceAdd, Nat.reduceSub, Nat.reduceMul, Nat.reduceMod, Nat.reduceDiv, Int.reduceLE, Int.reduceLT, Int.reduceToNat, Int.reduceAdd, Int.reduceSub, Int.reduceMul, Int.reduceEq, Int.reduceNeg, BitVec.reduceOfInt, BitVec.reduceToNat, BitVec.reduceEq, BitVec.reduceNe, BitVec.reduceLT, reduceCtorEq, List.forall_mem_nil]
  have hl := mixT_length (rowsB k s) s i hml
  rw [hs] at hl
  by_cases h0 : i < 16
  · have h0' : (i : Int) < 16 := by omega
    have zi : (0 : Int) ≤ (i : Int) := by omega
    have hkr : k * (i % 4) ≤ 3 * 3 := Nat.mul_le_mul hk (by omega)
    have hn := mixT_next (rowsB k s) s i hml (by omega)
    have t1 : (i : Int).tmod 4 = ((i % 4 : Nat) : Int) := rfl
    have t2 : (i : Int).tdiv 4 = ((i / 4 : Nat) : Int) := rfl
    have t2' : w64 ((i / 4 : Nat) : Int) = ((i / 4 : Nat) : Int) := by rw [w64_of (by omega) (by omega)]
    have t3 : w64 ((k : Int) * ((i % 4 : Nat) : Int)) = ((k * (i % 4) : Nat) : Int) := by rw [show (k : Int) * ((i % 4 : Nat) : Int) = ((k * (i % 4) : Nat) : Int) from rfl, w64_of (by omega) (by omega)]
    have t4 : w64 (((i / 4 : Nat) : Int) + ((k * (i % 4) : Nat) : Int)) = ((i / 4 + k * (i % 4) : Nat) : Int) := by rw [w64_of (by omega) (by omega)]; omega
    have t5 : ((i / 4 + k * (i % 4) : Nat) : Int).tmod 4 = (((i / 4 + k * (i % 4)) % 4 : Nat) : Int) := rfl
    generalize hq : (i / 4 + k * (i % 4)) % 4 = q at *
    have t6 : w64 (4 * (q : Int)) = ((4 * q : Nat) : Int) := by rw [w64_of (by omega) (by omega)]; omega
    have t7 : w64 (((i % 4 : Nat) : Int) + ((4 * q : Nat) : Int)) = ((i % 4 + 4 * q : Nat) : Int) := by rw [w64_of (by omega) (by omega)]; omega
    have z1 : (0 : Int) ≤ ((i % 4 + 4 * q : Nat) : Int) := by omega
    have z2 : ((i % 4 + 4 * q : Nat) : Int) < 16 := by omega
    have z3 : i % 4 + 4 * q < 16 := by omega
    have z4 : i % 4 + 4 * q < s.length := by omega
    have hv : (rowsB k s).getD i 0 = s.getD (i % 4 + 4 * q) 0 := by unfold rowsB; rw [mk16_getD _ i h0, hq]
    rw [hv] at hn
    simp only [go_sem, ↓reduceIte, Nat.reduceEqDiff, Nat.reduceLT, Nat.reduceLeDiff, Nat.reduceAdd, Nat.reduceSub, Nat.reduceMul, Nat.reduceMod, Nat.reduceDiv, Int.reduceLE, Int.reduceLT, Int.reduceToNat, Int.reduceAdd, Int.reduceSub, Int.reduceMul, Int.reduceEq, Int.reduceNeg, BitVec.reduceOfInt, BitVec.reduceToNat, BitVec.reduceEq, BitVec.reduceNe, BitVec.reduceLT, reduceCtorEq, List.forall_mem_nil, h0', h0, zi, hl, hs, t1, t2, t2', t3, t4, t5, t6, t7, z1, z2, z3, getD_u8 z4, hn]
    refine ⟨by omega, by kernel_rfl, ?_⟩
    refine again_mk (ji - 1) ⟨[(0, .ptr 0 0), (1, .i64 k), (4, .ptr 1 0), (11, .i64 (i + 1 : Nat))], [some ⟨false, (mixT (rowsB k s) s (i + 1 : Nat)).map .u8⟩, some ⟨false, s.map .u8⟩]⟩ (by omega) ?_ rfl (fun _ _ h => h) ⟨i + 1, by omega, rfl⟩
    have hw1 : w64 ((i : Int) + 1) = ((i + 1 : Nat) : Int) := by rw [w64_of (by omega) (by omega)]; omega
    simp [St.get, lookS, hw1, -List.map_set, -List.map_map, List.length_nil]
  · obtain rfl : i = 16 := by omega
    have h0' : ¬ ((16 : Nat) : Int) < 16 := by omega
    have he := mixT_all (rowsB k s) s hml
    rw [hs] at he
    simp only [go_sem, ↓reduceIte, Nat.reduceEqDiff, Nat.reduceLT, Nat.reduceLeDiff, Nat.reduceAdd, Nat.reduceSub, Nat.reduceMul, Nat.reduceMod, Nat.reduceDiv, Int.reduceLE, Int.reduceLT, Int.reduceToNat, Int.reduceAdd, Int.reduceSub, Int.reduceMul, Int.reduceEq, Int.reduceNeg, BitVec.reduceOfInt, BitVec.reduceToNat, BitVec.reduceEq, BitVec.reduceNe, BitVec.reduceLT, reduceCtorEq, List.forall_mem_nil, h0', he]
    exact Fin.ren [0] (by simp) (by simp) (by rfl) (by decide) (by simp [-List.map_map, -List.map_set, vtuple_zero, rens_append, lows_append, sgOf_zero, sgOf_succ, rens, V.ren, lows, V.low, rens_u8, rens_u32, rens_u64, rens_i64, rens_str, lows_u8, lows_u32, lows_u64, lows_i64, lows_str, allSome, allRw, blksOk_nil, blksOk_none, blksOk_some, getH_zero, getH_succ, getH_nil]) (by simp [-List.map_map, -List.map_set, vtuple_zero, rens_append, lows_append, sgOf_zero, sgOf_succ, rens, V.ren, lows, V.low, rens_u8, rens_u32, rens_u64, rens_i64, rens_str, lows_u8, lows_u32, lows_u64, lows_i64, lows_str, allSome, allRw, blksOk_nil, blksOk_none, blksOk_some, getH_zero, getH_succ, getH_nil])
def mp (m s : List (BitVec 8)) (i k : Nat) : BitVec 8 := gmul (m.getD ((k + 4 - i % 4) % 4) 0) (s.getD (4 * (i / 4) + k) 0)
def colB (m s : List (BitVec 8)) : List (BitVec 8) := mk16 fun i => 0#8 ^^^ mp m s i 0 ^^^ mp m s i 1 ^^^ mp m s i 2 ^^^ mp m s i 3
theorem getD_set_self (l : List (BitVec 8)) (i : Nat) (x : BitVec 8) (h : i < l.length) : (l.set i x).getD i 0 = x := by
  rw [List.getD_eq_getElem?_getD, List.getElem?_set_self h]; rfl
theorem columns_spec (s : List (BitVec 8)) (m : List (BitVec 8)) (hs : s.length = 16) (hm : m.length = 4) : Spec0 Try.prog 95 [.ptr 0 0, .agg (m.map .u8)] [some ⟨false, s.map .u8⟩] (.tup []) [some ⟨false, (colB m s).map .u8⟩] := by
  have hml : (colB m s).length = s.length := by rw [hs]; exact mk16_length _
  have hsp' : splice [.u8 0#8, .u8 0#8, .u8 0#8, .u8 0#8, .u8 0#8, .u8 0#8, .u8 0#8, .u8 0#8, .u8 0#8, .u8 0#8, .u8 0#8, .u8 0#8, .u8 0#8, .u8 0#8, .u8 0#8, .u8 0#8] 0 (s.map V.u8) = s.map V.u8 := splice_all _ _ (by rw [List.length_map, hs]; rfl)
  have htk : List.take 16 (s.map V.u8) = s.map V.u8 := List.take_of_length_le (by rw [List.length_map, hs]; exact Nat.le_refl _)
  refine spec0_of_vc (by kernel_rfl) (fn := Try.f95) Try.func95 rfl (by show 2 ≤ 50; decide) (go_start ?_)
  simp only [go_sem, ↓reduceIte, Nat.reduceEqDiff, Nat.reduceLT, Nat.reduceLeDiff, Nat.reduceAdd, Nat.reduceSub, Nat.reduceMul, Nat.reduceMod, Nat.reduceDiv, Int.reduceLE, Int.reduceLT, Int.reduceToNat, Int.reduceAdd, Int.reduceSub, Int.reduceMul, Int.reduceEq, Int.reduceNeg, BitVec.reduceOfInt, BitVec.reduceToNat, BitVec.reduceEq, BitVec.reduceNe, BitVec.reduceLT, reduceCtorEq, List.forall_mem_nil, Try.ntmps95, Try.results95, hs, htk, hsp']
  refine go_loop (fun ji st => ∃ i : Nat, i + ji = 16 ∧ st = ⟨[(0, .ptr 0 0), (3, .ptr 1 0), (4, .ptr 2 0), (12, .i64 i)], [some ⟨false, (mixT (colB m s) s i).map .u8⟩, some ⟨false, m.map .u8⟩, some ⟨false, s.map .u8⟩]⟩) ?_ ?_
  · exact start_mk (16) ⟨[(0, .ptr 0 0), (3, .ptr 1 0), (4, .ptr 2 0), (12, .i64 (0 : Nat))], [some ⟨false, (mixT (colB m s) s (0 : Nat)).map .u8⟩, some ⟨false, m.map .u8⟩, some ⟨false, s.map .u8⟩]⟩ (by simp [St.get, lookS, -List.map_set, -List.map_map, mixT]) rfl (fun _ _ h => h) ⟨0, by omega, rfl⟩
  rintro ji st ⟨i, hi, rfl⟩ _
  simp only [go_sem, ↓reduceIte, Nat.reduceEqDiff, Nat.reduceLT, Nat.reduceLeDiff, Nat.reduceAdd, Nat.reduceSub, Nat.reduceMul, Nat.reduceMod, Nat.reduceDiv, Int.reduceLE, Int.reduceLT, Int.reduceToNat, Int.reduceAdd, Int.reduceSub, Int.reduceMul, Int.reduceEq, Int.reduceNeg, BitVec.reduceOfInt, BitVec.reduceToNat, BitVec.reduceEq, BitVec.reduceNe, BitVec.reduceLT, reduceCtorEq, List.forall_mem_nil]
  have hl := mixT_length (colB m s) s i hml
  rw [hs] at hl
  by_cases h0 : i < 16
  · have h0' : (i : Int) < 16 := by omega
    have zi : (0 : Int) ≤ (i : Int) := by omega
    have hn := mixT_next (colB m s) s i hml (by omega)
    have t1 : (i : Int).tmod 4 = ((i % 4 : Nat) : Int) := rfl
    have t2 : (i : Int).tdiv 4 = ((i / 4 : Nat) : Int) := rfl
    have t2' : w64 ((i / 4 : Nat) : Int) = ((i / 4 : Nat) : Int) := by rw [w64_of (by omega) (by omega)]
    have hv : (colB m s).getD i 0 = 0#8 ^^^ mp m s i 0 ^^^ mp m s i 1 ^^^ mp m s i 2 ^^^ mp m s i 3 := by unfold colB; rw [mk16_getD _ i h0]
    rw [hv] at hn
    have a0 : w64 ((0 : Int) - ((i % 4 : Nat) : Int)) = (0 : Int) - ((i % 4 : Nat) : Int) := w64_of (by omega) (by omega)
    have b0 : w64 ((0 : Int) - ((i % 4 : Nat) : Int) + 4) = ((4 - i % 4 : Nat) : Int) := by rw [w64_of (by omega) (by omega)]; omega
    have c0 : w64 (((4 * (i / 4) : Nat) : Int) + 0) = ((4 * (i / 4) : Nat) : Int) := by rw [w64_of (by omega) (by omega)]; omega
    have w0 : (((4 * (i / 4) : Nat) : Int) < 16) = True := eq_true (by omega)
    have x0 : (4 * (i / 4) < 16) = True := eq_true (by omega)
    have e0 : (s.map V.u8).getD (4 * (i / 4)) .junk = .u8 (s.getD (4 * (i / 4)) 0) := getD_u8 (by omega)
    have p0 : gmul (m.getD ((4 - i % 4) % 4) 0) (s.getD (4 * (i / 4)) 0) = mp m s i 0 := rfl
    have a1 : w64 ((1 : Int) - ((i % 4 : Nat) : Int)) = (1 : Int) - ((i % 4 : Nat) : Int) := w64_of (by omega) (by omega)
    have b1 : w64 ((1 : Int) - ((i % 4 : Nat) : Int) + 4) = ((5 - i % 4 : Nat) : Int) := by rw [w64_of (by omega) (by omega)]; omega
    have c1 : w64 (((4 * (i / 4) : Nat) : Int) + 1) = ((4 * (i / 4) + 1 : Nat) : Int) := by rw [w64_of (by omega) (by omega)]; omega
    have w1 : (((4 * (i / 4) + 1 : Nat) : Int) < 16) = True := eq_true (by omega)
    have x1 : (4 * (i / 4) + 1 < 16) = True := eq_true (by omega)
    have e1 : (s.map V.u8).getD (4 * (i / 4) + 1) .junk = .u8 (s.getD (4 * (i / 4) + 1) 0) := getD_u8 (by omega)
    have p1 : gmul (m.getD ((5 - i % 4) % 4) 0) (s.getD (4 * (i / 4) + 1) 0) = mp m s i 1 := rfl
    have a2 : w64 ((2 : Int) - ((i % 4 : Nat) : Int)) = (2 : Int) - ((i % 4 : Nat) : Int) := w64_of (by omega) (by omega)
    have b2 : w64 ((2 : Int) - ((i % 4 : Nat) : Int) + 4) = ((6 - i % 4 : Nat) : Int) := by rw [w64_of (by omega) (by omega)]; omega
    have c2 : w64 (((4 * (i / 4) : Nat) : Int) + 2) = ((4 * (i / 4) + 2 : Nat) : Int) := by rw [w64_of (by omega) (by omega)]; omega
    have w2 : (((4 * (i / 4) + 2 : Nat) : Int) < 16) = True := eq_true (by omega)
    have x2 : (4 * (i / 4) + 2 < 16) = True := eq_true (by omega)
    have e2 : (s.map V.u8).getD (4 * (i / 4) + 2) .junk = .u8 (s.getD (4 * (i / 4) + 2) 0) := getD_u8 (by omega)
    have p2 : gmul (m.getD ((6 - i % 4) % 4) 0) (s.getD (4 * (i / 4) + 2) 0) = mp m s i 2 := rfl
    have a3 : w64 ((3 : Int) - ((i % 4 : Nat) : Int)) = (3 : Int) - ((i % 4 : Nat) : Int) := w64_of (by omega) (by omega)
    have b3 : w64 ((3 : Int) - ((i % 4 : Nat) : Int) + 4) = ((7 - i % 4 : Nat) : Int) := by rw [w64_of (by omega) (by omega)]; omega
    have c3 : w64 (((4 * (i / 4) : Nat) : Int) + 3) = ((4 * (i / 4) + 3 : Nat) : Int) := by rw [w64_of (by omega) (by omega)]; omega
    have w3 : (((4 * (i / 4) + 3 : Nat) : Int) < 16) = True := eq_true (by omega)
    have x3 : (4 * (i / 4) + 3 < 16) = True := eq_true (by omega)
    have e3 : (s.map V.u8).getD (4 * (i / 4) + 3) .junk = .u8 (s.getD (4 * (i / 4) + 3) 0) := getD_u8 (by omega)
    have p3 : gmul (m.getD ((7 - i % 4) % 4) 0) (s.getD (4 * (i / 4) + 3) 0) = mp m s i 3 := rfl
    have r3 : ∀ k : Nat, ((k : Nat) : Int).tmod 4 = ((k % 4 : Nat) : Int) := fun k => rfl
    have r4 : w64 (4 * ((i / 4 : Nat) : Int)) = ((4 * (i / 4) : Nat) : Int) := by rw [w64_of (by omega) (by omega)]; omega
    have u1 : ∀ k : Nat, (((k % 4 : Nat) : Int) < 4) = True := fun k => eq_true (by omega)
    have u2 : ∀ k : Nat, ((0 : Int) ≤ (k : Int)) = True := fun k => eq_true (by omega)
    have u3 : ∀ k : Nat, (k % 4 < 4) = True := fun k => eq_true (by omega)
    have v1 : ∀ k : Nat, (m.map V.u8).getD (k % 4) .junk = .u8 (m.getD (k % 4) 0) := fun k => getD_u8 (by omega)
    have y1 : ∀ x : BitVec 8, (((mixT (colB m s) s i).set i x).map V.u8).getD i .junk = .u8 x := fun x => by rw [getD_u8 (by rw [List.length_set]; omega), getD_set_self _ _ _ (by omega)]
    simp only [go_sem, ↓reduceIte, Nat.reduceEqDiff, Nat.reduceLT, Nat.reduceLeDiff, Nat.reduceAdd, Nat.reduceSub, Nat.reduceMul, Nat.reduceMod, Nat.reduceDiv, Int.reduceLE, Int.reduceLT, Int.reduceToNat, Int.reduceAdd, Int.reduceSub, Int.reduceMul, Int.reduceEq, Int.reduceNeg, BitVec.reduceOfInt, BitVec.reduceToNat, BitVec.reduceEq, BitVec.reduceNe, BitVec.reduceLT, reduceCtorEq, List.forall_mem_nil, h0', h0, zi, hl, hs, hm, t1, t2, t2']
    refine ⟨by omega, go_unroll 5 ?_⟩
    simp only [go_sem, ↓reduceIte, Nat.reduceEqDiff, Nat.reduceLT, Nat.reduceLeDiff, Nat.reduceAdd, Nat.reduceSub, Nat.reduceMul, Nat.reduceMod, Nat.reduceDiv, Int.reduceLE, Int.reduceLT, Int.reduceToNat, Int.reduceAdd, Int.reduceSub, Int.reduceMul, Int.reduceEq, Int.reduceNeg, BitVec.reduceOfInt, BitVec.reduceToNat, BitVec.reduceEq, BitVec.reduceNe, BitVec.reduceLT, reduceCtorEq, List.forall_mem_nil, a0, b0, c0, w0, x0, e0, p0, a1, b1, c1, w1, x1, e1, p1, a2, b2, c2, w2, x2, e2, p2, a3, b3, c3, w3, x3, e3, p3, r3, r4, u1, u2, u3, v1, y1, hn, List.set_set, hl, h0', h0, zi, hs, hm]
    refine goCallD_pure0 (Mul_spec _ _) ?_
    simp only [go_sem, ↓reduceIte, Nat.reduceEqDiff, Nat.reduceLT, Nat.reduceLeDiff, Nat.reduceAdd, Nat.reduceSub, Nat.reduceMul, Nat.reduceMod, Nat.reduceDiv, Int.reduceLE, Int.reduceLT, Int.reduceToNat, Int.reduceAdd, Int.reduceSub, Int.reduceMul, Int.reduceEq, Int.reduceNeg, BitVec.reduceOfInt, BitVec.reduceToNat, BitVec.reduceEq, BitVec.reduceNe, BitVec.reduceLT, reduceCtorEq, List.forall_mem_nil, a0, b0, c0, w0, x0, e0, p0, a1, b1, c1, w1, x1, e1, p1, a2, b2, c2, w2, x2, e2, p2, a3, b3, c3, w3, x3, e3, p3, r3, r4, u1, u2, u3, v1, y1, hn, List.set_set, hl, h0', h0, zi, hs, hm]
    refine ⟨by omega, by kernel_rfl, ?_⟩
    refine goCallD_pure0 (Mul_spec _ _) ?_
    simp only [go_sem, ↓reduceIte, Nat.reduceEqDiff, Nat.reduceLT, Nat.reduceLeDiff, Nat.reduceAdd, Nat.reduceSub, Nat.reduceMul, Nat.reduceMod, Nat.reduceDiv, Int.reduceLE, Int.reduceLT, Int.reduceToNat, Int.reduceAdd, Int.reduceSub, Int.reduceMul, Int.reduceEq, Int.reduceNeg, BitVec.reduceOfInt, BitVec.reduceToNat, BitVec.reduceEq, BitVec.reduceNe, BitVec.reduceLT, reduceCtorEq, List.forall_mem_nil, a0, b0, c0, w0, x0, e0, p0, a1, b1, c1, w1, x1, e1, p1, a2, b2, c2, w2, x2, e2, p2, a3, b3, c3, w3, x3, e3, p3, r3, r4, u1, u2, u3, v1, y1, hn, List.set_set, hl, h0', h0, zi, hs, hm]
    refine ⟨by omega, by kernel_rfl, ?_⟩
    refine goCallD_pure0 (Mul_spec _ _) ?_
    simp only [go_sem, ↓reduceIte, Nat.reduceEqDiff, Nat.reduceLT, Nat.reduceLeDiff, Nat.reduceAdd, Nat.reduceSub, Nat.reduceMul, Nat.reduceMod, Nat.reduceDiv, Int.reduceLE, Int.reduceLT, Int.reduceToNat, Int.reduceAdd, Int.reduceSub, Int.reduceMul, Int.reduceEq, Int.reduceNeg, BitVec.reduceOfInt, BitVec.reduceToNat, BitVec.reduceEq, BitVec.reduceNe, BitVec.reduceLT, reduceCtorEq, List.forall_mem_nil, a0, b0, c0, w0, x0, e0, p0, a1, b1, c1, w1, x1, e1, p1, a2, b2, c2, w2, x2, e2, p2, a3, b3, c3, w3, x3, e3, p3, r3, r4, u1, u2, u3, v1, y1, hn, List.set_set, hl, h0', h0, zi, hs, hm]
    refine ⟨by omega, by kernel_rfl, ?_⟩
    refine goCallD_pure0 (Mul_spec _ _) ?_
    simp only [go_sem, ↓reduceIte, Nat.reduceEqDiff, Nat.reduceLT, Nat.reduceLeDiff, Nat.reduceAdd, Nat.reduceSub, Nat.reduceMul, Nat.reduceMod, Nat.reduceDiv, Int.reduceLE, Int.reduceLT, Int.reduceToNat, Int.reduceAdd, Int.reduceSub, Int.reduceMul, Int.reduceEq, Int.reduceNeg, BitVec.reduceOfInt, BitVec.reduceToNat, BitVec.reduceEq, BitVec.reduceNe, BitVec.reduceLT, reduceCtorEq, List.forall_mem_nil, a0, b0, c0, w0, x0, e0, p0, a1, b1, c1, w1, x1, e1, p1, a2, b2, c2, w2, x2, e2, p2, a3, b3, c3, w3, x3, e3, p3, r3, r4, u1, u2, u3, v1, y1, hn, List.set_set, hl, h0', h0, zi, hs, hm]
    refine ⟨by omega, by kernel_rfl, ?_⟩
    refine again_mk (ji - 1) ⟨[(0, .ptr 0 0), (3, .ptr 1 0), (4, .ptr 2 0), (12, .i64 (i + 1 : Nat))], [some ⟨false, (mixT (colB m s) s (i + 1 : Nat)).map .u8⟩, some ⟨false, m.map .u8⟩, some ⟨false, s.map .u8⟩]⟩ (by omega) ?_ rfl (fun _ _ h => h) ⟨i + 1, by omega, rfl⟩
    have hw1 : w64 ((i : Int) + 1) = ((i + 1 : Nat) : Int) := by rw [w64_of (by omega) (by omega)]; omega
    simp [St.get, lookS, hw1, -List.map_set, -List.map_map, List.length_nil]
  · obtain rfl : i = 16 := by omega
    have h0' : ¬ ((16 : Nat) : Int) < 16 := by omega
    have he := mixT_all (colB m s) s hml
    rw [hs] at he
    simp only [go_sem, ↓reduceIte, Nat.reduceEqDiff, Nat.reduceLT, Nat.reduceLeDiff, Nat.reduceAdd, Nat.reduceSub, Nat.reduceMul, Nat.reduceMod, Nat.reduceDiv, Int.reduceLE, Int.reduceLT, Int.reduceToNat, Int.reduceAdd, Int.reduceSub, Int.reduceMul, Int.reduceEq, Int.reduceNeg, BitVec.reduceOfInt, BitVec.reduceToNat, BitVec.reduceEq, BitVec.reduceNe, BitVec.reduceLT, reduceCtorEq, List.forall_mem_nil, h0', he]
    exact Fin.ren [0] (by simp) (by simp) (by rfl) (by decide) (by simp [-List.map_map, -List.map_set, vtuple_zero, rens_append, lows_append, sgOf_zero, sgOf_succ, rens, V.ren, lows, V.low, rens_u8, rens_u32, rens_u64, rens_i64, rens_str, lows_u8, lows_u32, lows_u64, lows_i64, lows_str, allSome, allRw, blksOk_nil, blksOk_none, blksOk_some, getH_zero, getH_succ, getH_nil]) (by simp [-List.map_map, -List.map_set, vtuple_zero, rens_append, lows_append, sgOf_zero, sgOf_succ, rens, V.ren, lows, V.low, rens_u8, rens_u32, rens_u64, rens_i64, rens_str, lows_u8, lows_u32, lows_u64, lows_i64, lows_str, allSome, allRw, blksOk_nil, blksOk_none, blksOk_some, getH_zero, getH_succ, getH_nil])
end Go.Vm
end
section
namespace Go.Vm
open Go.Proofs
set_option maxRecDepth 20000
/-- A block on its way in, behind the round i. -/
def encS (t K : List (BitVec 8)) (R : Nat) : Nat → List (BitVec 8)
  | 0 => xorB t K
  | i + 1 =>
    let s := rowsB 1 ((encS t K R i).map subC)
    xorB (if i + 2 < R then colB [2#8, 3#8, 1#8, 1#8] s else s) (K.drop (16 * (i + 1)))
theorem rowsB_length (k : Nat) (s : List (BitVec 8)) : (rowsB k s).length = 16 := mk16_length _
theorem colB_length (m s : List (BitVec 8)) : (colB m s).length = 16 := mk16_length _
theorem encS_length (t K : List (BitVec 8)) (R : Nat) (ht : t.length = 16) (hK : K.length = 16 * R) (i : Nat) (hi : i < R) : (encS t K R i).length = 16 := by
  cases i with
  | zero => rw [encS, xorB_length]; omega
  | succ i =>
    rw [encS]
    have h1 : (if i + 2 < R then colB [2#8, 3#8, 1#8, 1#8] (rowsB 1 ((encS t K R i).map subC)) else rowsB 1 ((encS t K R i).map subC)).length = 16 := by
      split
      · exact colB_length _ _
      · exact rowsB_length _ _
    rw [xorB_length, h1, List.length_drop]; omega
set_option maxHeartbeats 2000000 in
theorem Encrypt_spec (t K T : List (BitVec 8)) (R : Nat) (ht : t.length = 16) (hR : 2 ≤ R) (hR2 : R ≤ 20) (hK : K.length = 16 * R) (hT : T.length = 512) (hf : ∀ b : BitVec 8, T.getD (0 + b.toNat) 0 = subC b) : Spec0 Try.prog 59 [.ptr 0 0, .str t] [some ⟨false, [.ptr 1 0, .str K]⟩, some ⟨false, T.map .u8⟩] (.str (encS t K R (R - 1))) [some ⟨false, [.ptr 1 0, .str K]⟩, some ⟨false, T.map .u8⟩] := by
  have h0 := add_spec t K ht (by omega) (by omega)
  have hsp : splice [.u8 0#8, .u8 0#8, .u8 0#8, .u8 0#8, .u8 0#8, .u8 0#8, .u8 0#8, .u8 0#8, .u8 0#8, .u8 0#8, .u8 0#8, .u8 0#8, .u8 0#8, .u8 0#8, .u8 0#8, .u8 0#8] 0 (t.map V.u8) = t.map V.u8 := splice_all _ _ (by rw [List.length_map, ht]; rfl)
  have htk : List.take 16 (t.map V.u8) = t.map V.u8 := List.take_of_length_le (by rw [List.length_map, ht]; exact Nat.le_refl _)
  have h16 : (16 : Int) ≤ (K.length : Int) := by omega
  refine spec0_of_vc (by kernel_rfl) (fn := Try.f59) Try.func59 rfl (by show 2 ≤ 40; decide) (go_start ?_)
  simp only [go_sem, ↓reduceIte, Nat.reduceEqDiff, Nat.reduceLT, Nat.reduceLeDiff, Nat.reduceAdd, Nat.reduceSub, Nat.reduceMul, Nat.reduceMod, Nat.reduceDiv, Int.reduceLE, Int.reduceLT, Int.reduceToNat, Int.reduceAdd, Int.reduceSub, Int.reduceMul, Int.reduceEq, Int.reduceNeg, BitVec.reduceOfInt, BitVec.reduceToNat, BitVec.reduceEq, BitVec.reduceNe, BitVec.reduceLT, reduceCtorEq, List.forall_mem_nil, Try.ntmps59, Try.results59, ht, hsp, htk, h16]
  refine goCall_mem [3] (h0) (by kernel_rfl) (by simp [-List.map_map, -List.map_set, vtuple_zero, rens_append, lows_append, sgOf_zero, sgOf_succ, rens, V.ren, lows, V.low, rens_u8, rens_u32, rens_u64, rens_i64, rens_str, lows_u8, lows_u32, lows_u64, lows_i64, lows_str, allSome, allRw, blksOk_nil, blksOk_none, blksOk_some, getH_zero, getH_succ, getH_nil]) rfl (by simp [-List.map_map, -List.map_set, vtuple_zero, rens_append, lows_append, sgOf_zero, sgOf_succ, rens, V.ren, lows, V.low, rens_u8, rens_u32, rens_u64, rens_i64, rens_str, lows_u8, lows_u32, lows_u64, lows_i64, lows_str, allSome, allRw, blksOk_nil, blksOk_none, blksOk_some, getH_zero, getH_succ, getH_nil]) (by decide) (by simp [-List.map_map, -List.map_set, vtuple_zero, rens_append, lows_append, sgOf_zero, sgOf_succ, rens, V.ren, lows, V.low, rens_u8, rens_u32, rens_u64, rens_i64, rens_str, lows_u8, lows_u32, lows_u64, lows_i64, lows_str, allSome, allRw, blksOk_nil, blksOk_none, blksOk_some, getH_zero, getH_succ, getH_nil]) (by simp [-List.map_map, -List.map_set, vtuple_zero, rens_append, lows_append, sgOf_zero, sgOf_succ, rens, V.ren, lows, V.low, rens_u8, rens_u32, rens_u64, rens_i64, rens_str, lows_u8, lows_u32, lows_u64, lows_i64, lows_str, allSome, allRw, blksOk_nil, blksOk_none, blksOk_some, getH_zero, getH_succ, getH_nil]) (by simp [-List.map_map, -List.map_set, vtuple_zero, rens_append, lows_append, sgOf_zero, sgOf_succ, rens, V.ren, lows, V.low, rens_u8, rens_u32, rens_u64, rens_i64, rens_str, lows_u8, lows_u32, lows_u64, lows_i64, lows_str, allSome, allRw, blksOk_nil, blksOk_none, blksOk_some, getH_zero, getH_succ, getH_nil]) (by simp [-List.map_map, -List.map_set, vtuple_zero, rens_append, lows_append, sgOf_zero, sgOf_succ, rens, V.ren, lows, V.low, rens_u8, rens_u32, rens_u64, rens_i64, rens_str, lows_u8, lows_u32, lows_u64, lows_i64, lows_str, allSome, allRw, blksOk_nil, blksOk_none, blksOk_some, getH_zero, getH_succ, getH_nil]) (by simp) ?_
  simp only [go_sem, ↓reduceIte, Nat.reduceEqDiff, Nat.reduceLT, Nat.reduceLeDiff, Nat.reduceAdd, Nat.reduceSub, Nat.reduceMul, Nat.reduceMod, Nat.reduceDiv, Int.reduceLE, Int.reduceLT, Int.reduceToNat, Int.reduceAdd, Int.reduceSub, Int.reduceMul, Int.reduceEq, Int.reduceNeg, BitVec.reduceOfInt, BitVec.reduceToNat, BitVec.reduceEq, BitVec.reduceNe, BitVec.reduceLT, reduceCtorEq, List.forall_mem_nil]
  refine ⟨h16, ?_⟩
  refine go_loop (fun j st => ∃ i : Nat, i + j = R - 1 ∧ st = ⟨[(0, .ptr 0 0), (5, .str (K.drop (16 * (i + 1)))), (6, .ptr 2 0)], [some ⟨false, [.ptr 1 0, .str K]⟩, some ⟨false, T.map .u8⟩, some ⟨false, (encS t K R i).map .u8⟩]⟩) ?_ ?_
  · exact start_ren (R - 1) ⟨[(0, .ptr 0 0), (5, .str (K.drop (16 * (0 + 1)))), (6, .ptr 2 0)], [some ⟨false, [.ptr 1 0, .str K]⟩, some ⟨false, T.map .u8⟩, some ⟨false, (encS t K R 0).map .u8⟩]⟩ [0, 1, 3] rfl (by simp) rfl (by decide) (by simp [slotsOk, St.get, lookS, -List.map_map, -List.map_set, vtuple_zero, rens_append, lows_append, sgOf_zero, sgOf_succ, rens, V.ren, lows, V.low, rens_u8, rens_u32, rens_u64, rens_i64, rens_str, lows_u8, lows_u32, lows_u64, lows_i64, lows_str, allSome, allRw, blksOk_nil, blksOk_none, blksOk_some, getH_zero, getH_succ, getH_nil]) (by simp [encS, -List.map_map, -List.map_set, vtuple_zero, rens_append, lows_append, sgOf_zero, sgOf_succ, rens, V.ren, lows, V.low, rens_u8, rens_u32, rens_u64, rens_i64, rens_str, lows_u8, lows_u32, lows_u64, lows_i64, lows_str, allSome, allRw, blksOk_nil, blksOk_none, blksOk_some, getH_zero, getH_succ, getH_nil]) ⟨0, by omega, rfl⟩
  rintro j st ⟨i, hi, rfl⟩ _
  have hel := encS_length t K R ht hK i (by omega)
  have hdl : (K.drop (16 * (i + 1))).length = 16 * (R - (i + 1)) := by rw [List.length_drop]; omega
  have hdd : (K.drop (16 * (i + 1))).drop 16 = K.drop (16 * (i + 1 + 1)) := by rw [List.drop_drop]; rfl
  by_cases hl : i < R - 1
  · obtain ⟨D, hD⟩ : ∃ D, D = K.drop (16 * (i + 1)) := ⟨_, rfl⟩
    have hes : encS t K R (i + 1) = xorB (if i + 2 < R then colB [2#8, 3#8, 1#8, 1#8] (rowsB 1 ((encS t K R i).map subC)) else rowsB 1 ((encS t K R i).map subC)) D := by rw [hD]; rfl
    rw [← hD] at hdl hdd
    have hne : (D = []) = False := eq_false (fun h => by rw [h] at hdl; simp at hdl; omega)
    have hth := through_spec (encS t K R i) T 0 subC hel hT (by omega) hf
    have hro := rows_spec ((encS t K R i).map subC) 1 (by rw [List.length_map, hel]) (by decide)
    generalize hs1 : (encS t K R i).map subC = s1 at *
    have hco := columns_spec (rowsB 1 s1) [2#8, 3#8, 1#8, 1#8] (rowsB_length _ _) rfl
    have g1 : 16 * (R - (i + 1)) ≤ 1000 := by omega
    have g2 : (16 : Int) ≤ (D.length : Int) := by omega
    by_cases hlast : i + 2 < R
    · have hl' : (16 : Int) < (D.length : Int) := by omega
      have had := add_spec (colB [2#8, 3#8, 1#8, 1#8] (rowsB 1 s1)) D (colB_length _ _) (by omega) (by omega)
      have hn : encS t K R (i + 1) = xorB (colB [2#8, 3#8, 1#8, 1#8] (rowsB 1 s1)) D := by rw [hes, if_pos hlast]
      rw [← hn] at had
      simp only [go_sem, ↓reduceIte, Nat.reduceEqDiff, Nat.reduceLT, Nat.reduceLeDiff, Nat.reduceAdd, Nat.reduceSub, Nat.reduceMul, Nat.reduceMod, Nat.reduceDiv, Int.reduceLE, Int.reduceLT, Int.reduceToNat, Int.reduceAdd, Int.reduceSub, Int.reduceMul, Int.reduceEq, Int.reduceNeg, BitVec.reduceOfInt, BitVec.reduceToNat, BitVec.reduceEq, BitVec.reduceNe, BitVec.reduceLT, reduceCtorEq, List.forall_mem_nil, ← hD, hne]
      refine goCall_mem [2, 1] (hth) (by kernel_rfl) (by simp [-List.map_map, -List.map_set, vtuple_zero, rens_append, lows_append, sgOf_zero, sgOf_succ, rens, V.ren, lows, V.low, rens_u8, rens_u32, rens_u64, rens_i64, rens_str, lows_u8, lows_u32, lows_u64, lows_i64, lows_str, allSome, allRw, blksOk_nil, blksOk_none, blksOk_some, getH_zero, getH_succ, getH_nil]) rfl (by simp [-List.map_map, -List.map_set, vtuple_zero, rens_append, lows_append, sgOf_zero, sgOf_succ, rens, V.ren, lows, V.low, rens_u8, rens_u32, rens_u64, rens_i64, rens_str, lows_u8, lows_u32, lows_u64, lows_i64, lows_str, allSome, allRw, blksOk_nil, blksOk_none, blksOk_some, getH_zero, getH_succ, getH_nil]) (by decide) (by simp [-List.map_map, -List.map_set, vtuple_zero, rens_append, lows_append, sgOf_zero, sgOf_succ, rens, V.ren, lows, V.low, rens_u8, rens_u32, rens_u64, rens_i64, rens_str, lows_u8, lows_u32, lows_u64, lows_i64, lows_str, allSome, allRw, blksOk_nil, blksOk_none, blksOk_some, getH_zero, getH_succ, getH_nil]) (by simp [-List.map_map, -List.map_set, vtuple_zero, rens_append, lows_append, sgOf_zero, sgOf_succ, rens, V.ren, lows, V.low, rens_u8, rens_u32, rens_u64, rens_i64, rens_str, lows_u8, lows_u32, lows_u64, lows_i64, lows_str, allSome, allRw, blksOk_nil, blksOk_none, blksOk_some, getH_zero, getH_succ, getH_nil]) (by simp [-List.map_map, -List.map_set, vtuple_zero, rens_append, lows_append, sgOf_zero, sgOf_succ, rens, V.ren, lows, V.low, rens_u8, rens_u32, rens_u64, rens_i64, rens_str, lows_u8, lows_u32, lows_u64, lows_i64, lows_str, allSome, allRw, blksOk_nil, blksOk_none, blksOk_some, getH_zero, getH_succ, getH_nil]) (by simp [-List.map_map, -List.map_set, vtuple_zero, rens_append, lows_append, sgOf_zero, sgOf_succ, rens, V.ren, lows, V.low, rens_u8, rens_u32, rens_u64, rens_i64, rens_str, lows_u8, lows_u32, lows_u64, lows_i64, lows_str, allSome, allRw, blksOk_nil, blksOk_none, blksOk_some, getH_zero, getH_succ, getH_nil]) (by simp) ?_
      simp only [go_sem, ↓reduceIte, Nat.reduceEqDiff, Nat.reduceLT, Nat.reduceLeDiff, Nat.reduceAdd, Nat.reduceSub, Nat.reduceMul, Nat.reduceMod, Nat.reduceDiv, Int.reduceLE, Int.reduceLT, Int.reduceToNat, Int.reduceAdd, Int.reduceSub, Int.reduceMul, Int.reduceEq, Int.reduceNeg, BitVec.reduceOfInt, BitVec.reduceToNat, BitVec.reduceEq, BitVec.reduceNe, BitVec.reduceLT, reduceCtorEq, List.forall_mem_nil]
      refine goCall_mem [2] (hro) (by kernel_rfl) (by simp [-List.map_map, -List.map_set, vtuple_zero, rens_append, lows_append, sgOf_zero, sgOf_succ, rens, V.ren, lows, V.low, rens_u8, rens_u32, rens_u64, rens_i64, rens_str, lows_u8, lows_u32, lows_u64, lows_i64, lows_str, allSome, allRw, blksOk_nil, blksOk_none, blksOk_some, getH_zero, getH_succ, getH_nil]) rfl (by simp [-List.map_map, -List.map_set, vtuple_zero, rens_append, lows_append, sgOf_zero, sgOf_succ, rens, V.ren, lows, V.low, rens_u8, rens_u32, rens_u64, rens_i64, rens_str, lows_u8, lows_u32, lows_u64, lows_i64, lows_str, allSome, allRw, blksOk_nil, blksOk_none, blksOk_some, getH_zero, getH_succ, getH_nil]) (by decide) (by simp [-List.map_map, -List.map_set, vtuple_zero, rens_append, lows_append, sgOf_zero, sgOf_succ, rens, V.ren, lows, V.low, rens_u8, rens_u32, rens_u64, rens_i64, rens_str, lows_u8, lows_u32, lows_u64, lows_i64, lows_str, allSome, allRw, blksOk_nil, blksOk_none, blksOk_some, getH_zero, getH_succ, getH_nil]) (by simp [-List.map_map, -List.map_set, vtuple_zero, rens_append, lows_append, sgOf_zero, sgOf_succ, rens, V.ren, lows, V.low, rens_u8, rens_u32, rens_u64, rens_i64, rens_str, lows_u8, lows_u32, lows_u64, lows_i64, lows_str, allSome, allRw, blksOk_nil, blksOk_none, blksOk_some, getH_zero, getH_succ, getH_nil]) (by simp [-List.map_map, -List.map_set, vtuple_zero, rens_append, lows_append, sgOf_zero, sgOf_succ, rens, V.ren, lows, V.low, rens_u8, rens_u32, rens_u64, rens_i64, rens_str, lows_u8, lows_u32, lows_u64, lows_i64, lows_str, allSome, allRw, blksOk_nil, blksOk_none, blksOk_some, getH_zero, getH_succ, getH_nil]) (by simp [-List.map_map, -List.map_set, vtuple_zero, rens_append, lows_append, sgOf_zero, sgOf_succ, rens, V.ren, lows, V.low, rens_u8, rens_u32, rens_u64, rens_i64, rens_str, lows_u8, lows_u32, lows_u64, lows_i64, lows_str, allSome, allRw, blksOk_nil, blksOk_none, blksOk_some, getH_zero, getH_succ, getH_nil]) (by simp) ?_
      simp only [go_sem, ↓reduceIte, Nat.reduceEqDiff, Nat.reduceLT, Nat.reduceLeDiff, Nat.reduceAdd, Nat.reduceSub, Nat.reduceMul, Nat.reduceMod, Nat.reduceDiv, Int.reduceLE, Int.reduceLT, Int.reduceToNat, Int.reduceAdd, Int.reduceSub, Int.reduceMul, Int.reduceEq, Int.reduceNeg, BitVec.reduceOfInt, BitVec.reduceToNat, BitVec.reduceEq, BitVec.reduceNe, BitVec.reduceLT, reduceCtorEq, List.forall_mem_nil, hl']
      refine goCall_mem [2] (hco) (by kernel_rfl) (by simp [-List.map_map, -List.map_set, vtuple_zero, rens_append, lows_append, sgOf_zero, sgOf_succ, rens, V.ren, lows, V.low, rens_u8, rens_u32, rens_u64, rens_i64, rens_str, lows_u8, lows_u32, lows_u64, lows_i64, lows_str, allSome, allRw, blksOk_nil, blksOk_none, blksOk_some, getH_zero, getH_succ, getH_nil]) rfl (by simp [-List.map_map, -List.map_set, vtuple_zero, rens_append, lows_append, sgOf_zero, sgOf_succ, rens, V.ren, lows, V.low, rens_u8, rens_u32, rens_u64, rens_i64, rens_str, lows_u8, lows_u32, lows_u64, lows_i64, lows_str, allSome, allRw, blksOk_nil, blksOk_none, blksOk_some, getH_zero, getH_succ, getH_nil]) (by decide) (by simp [-List.map_map, -List.map_set, vtuple_zero, rens_append, lows_append, sgOf_zero, sgOf_succ, rens, V.ren, lows, V.low, rens_u8, rens_u32, rens_u64, rens_i64, rens_str, lows_u8, lows_u32, lows_u64, lows_i64, lows_str, allSome, allRw, blksOk_nil, blksOk_none, blksOk_some, getH_zero, getH_succ, getH_nil]) (by simp [-List.map_map, -List.map_set, vtuple_zero, rens_append, lows_append, sgOf_zero, sgOf_succ, rens, V.ren, lows, V.low, rens_u8, rens_u32, rens_u64, rens_i64, rens_str, lows_u8, lows_u32, lows_u64, lows_i64, lows_str, allSome, allRw, blksOk_nil, blksOk_none, blksOk_some, getH_zero, getH_succ, getH_nil]) (by simp [-List.map_map, -List.map_set, vtuple_zero, rens_append, lows_append, sgOf_zero, sgOf_succ, rens, V.ren, lows, V.low, rens_u8, rens_u32, rens_u64, rens_i64, rens_str, lows_u8, lows_u32, lows_u64, lows_i64, lows_str, allSome, allRw, blksOk_nil, blksOk_none, blksOk_some, getH_zero, getH_succ, getH_nil]) (by simp [-List.map_map, -List.map_set, vtuple_zero, rens_append, lows_append, sgOf_zero, sgOf_succ, rens, V.ren, lows, V.low, rens_u8, rens_u32, rens_u64, rens_i64, rens_str, lows_u8, lows_u32, lows_u64, lows_i64, lows_str, allSome, allRw, blksOk_nil, blksOk_none, blksOk_some, getH_zero, getH_succ, getH_nil]) (by simp) ?_
      simp only [go_sem, ↓reduceIte, Nat.reduceEqDiff, Nat.reduceLT, Nat.reduceLeDiff, Nat.reduceAdd, Nat.reduceSub, Nat.reduceMul, Nat.reduceMod, Nat.reduceDiv, Int.reduceLE, Int.reduceLT, Int.reduceToNat, Int.reduceAdd, Int.reduceSub, Int.reduceMul, Int.reduceEq, Int.reduceNeg, BitVec.reduceOfInt, BitVec.reduceToNat, BitVec.reduceEq, BitVec.reduceNe, BitVec.reduceLT, reduceCtorEq, List.forall_mem_nil]
      refine goCall_mem [2] (had) (by kernel_rfl) (by simp [-List.map_map, -List.map_set, vtuple_zero, rens_append, lows_append, sgOf_zero, sgOf_succ, rens, V.ren, lows, V.low, rens_u8, rens_u32, rens_u64, rens_i64, rens_str, lows_u8, lows_u32, lows_u64, lows_i64, lows_str, allSome, allRw, blksOk_nil, blksOk_none, blksOk_some, getH_zero, getH_succ, getH_nil]) rfl (by simp [-List.map_map, -List.map_set, vtuple_zero, rens_append, lows_append, sgOf_zero, sgOf_succ, rens, V.ren, lows, V.low, rens_u8, rens_u32, rens_u64, rens_i64, rens_str, lows_u8, lows_u32, lows_u64, lows_i64, lows_str, allSome, allRw, blksOk_nil, blksOk_none, blksOk_some, getH_zero, getH_succ, getH_nil]) (by decide) (by simp [-List.map_map, -List.map_set, vtuple_zero, rens_append, lows_append, sgOf_zero, sgOf_succ, rens, V.ren, lows, V.low, rens_u8, rens_u32, rens_u64, rens_i64, rens_str, lows_u8, lows_u32, lows_u64, lows_i64, lows_str, allSome, allRw, blksOk_nil, blksOk_none, blksOk_some, getH_zero, getH_succ, getH_nil]) (by simp [-List.map_map, -List.map_set, vtuple_zero, rens_append, lows_append, sgOf_zero, sgOf_succ, rens, V.ren, lows, V.low, rens_u8, rens_u32, rens_u64, rens_i64, rens_str, lows_u8, lows_u32, lows_u64, lows_i64, lows_str, allSome, allRw, blksOk_nil, blksOk_none, blksOk_some, getH_zero, getH_succ, getH_nil]) (by simp [-List.map_map, -List.map_set, vtuple_zero, rens_append, lows_append, sgOf_zero, sgOf_succ, rens, V.ren, lows, V.low, rens_u8, rens_u32, rens_u64, rens_i64, rens_str, lows_u8, lows_u32, lows_u64, lows_i64, lows_str, allSome, allRw, blksOk_nil, blksOk_none, blksOk_some, getH_zero, getH_succ, getH_nil]) (by simp [-List.map_map, -List.map_set, vtuple_zero, rens_append, lows_append, sgOf_zero, sgOf_succ, rens, V.ren, lows, V.low, rens_u8, rens_u32, rens_u64, rens_i64, rens_str, lows_u8, lows_u32, lows_u64, lows_i64, lows_str, allSome, allRw, blksOk_nil, blksOk_none, blksOk_some, getH_zero, getH_succ, getH_nil]) (by simp) ?_
      simp only [go_sem, ↓reduceIte, Nat.reduceEqDiff, Nat.reduceLT, Nat.reduceLeDiff, Nat.reduceAdd, Nat.reduceSub, Nat.reduceMul, Nat.reduceMod, Nat.reduceDiv, Int.reduceLE, Int.reduceLT, Int.reduceToNat, Int.reduceAdd, Int.reduceSub, Int.reduceMul, Int.reduceEq, Int.reduceNeg, BitVec.reduceOfInt, BitVec.reduceToNat, BitVec.reduceEq, BitVec.reduceNe, BitVec.reduceLT, reduceCtorEq, List.forall_mem_nil, g2, List.take_length, hdd]
      exact again_ren (j - 1) ⟨[(0, .ptr 0 0), (5, .str (K.drop (16 * (i + 1 + 1)))), (6, .ptr 2 0)], [some ⟨false, [.ptr 1 0, .str K]⟩, some ⟨false, T.map .u8⟩, some ⟨false, (encS t K R (i + 1)).map .u8⟩]⟩ [0, 1, 2] (by omega) rfl (by simp) rfl (by decide) (by simp [slotsOk, St.get, lookS, -List.map_map, -List.map_set, vtuple_zero, rens_append, lows_append, sgOf_zero, sgOf_succ, rens, V.ren, lows, V.low, rens_u8, rens_u32, rens_u64, rens_i64, rens_str, lows_u8, lows_u32, lows_u64, lows_i64, lows_str, allSome, allRw, blksOk_nil, blksOk_none, blksOk_some, getH_zero, getH_succ, getH_nil]) (by simp [-List.map_map, -List.map_set, vtuple_zero, rens_append, lows_append, sgOf_zero, sgOf_succ, rens, V.ren, lows, V.low, rens_u8, rens_u32, rens_u64, rens_i64, rens_str, lows_u8, lows_u32, lows_u64, lows_i64, lows_str, allSome, allRw, blksOk_nil, blksOk_none, blksOk_some, getH_zero, getH_succ, getH_nil]) ⟨i + 1, by omega, rfl⟩
    · have hl' : ¬ (16 : Int) < (D.length : Int) := by omega
      have had := add_spec (rowsB 1 s1) D (rowsB_length _ _) (by omega) (by omega)
      have hn : encS t K R (i + 1) = xorB (rowsB 1 s1) D := by rw [hes, if_neg hlast]
      rw [← hn] at had
      simp only [go_sem, ↓reduceIte, Nat.reduceEqDiff, Nat.reduceLT, Nat.reduceLeDiff, Nat.reduceAdd, Nat.reduceSub, Nat.reduceMul, Nat.reduceMod, Nat.reduceDiv, Int.reduceLE, Int.reduceLT, Int.reduceToNat, Int.reduceAdd, Int.reduceSub, Int.reduceMul, Int.reduceEq, Int.reduceNeg, BitVec.reduceOfInt, BitVec.reduceToNat, BitVec.reduceEq, BitVec.reduceNe, BitVec.reduceLT, reduceCtorEq, List.forall_mem_nil, ← hD, hne]
      refine goCall_mem [2, 1] (hth) (by kernel_rfl) (by simp [-List.map_map, -List.map_set, vtuple_zero, rens_append, lows_append, sgOf_zero, sgOf_succ, rens, V.ren, lows, V.low, rens_u8, rens_u32, rens_u64, rens_i64, rens_str, lows_u8, lows_u32, lows_u64, lows_i64, lows_str, allSome, allRw, blksOk_nil, blksOk_none, blksOk_some, getH_zero, getH_succ, getH_nil]) rfl (by simp [-List.map_map, -List.map_set, vtuple_zero, rens_append, lows_append, sgOf_zero, sgOf_succ, rens, V.ren, lows, V.low, rens_u8, rens_u32, rens_u64, rens_i64, rens_str, lows_u8, lows_u32, lows_u64, lows_i64, lows_str, allSome, allRw, blksOk_nil, blksOk_none, blksOk_some, getH_zero, getH_succ, getH_nil]) (by decide) (by simp [-List.map_map, -List.map_set, vtuple_zero, rens_append, lows_append, sgOf_zero, sgOf_succ, rens, V.ren, lows, V.low, rens_u8, rens_u32, rens_u64, rens_i64, rens_str, lows_u8, lows_u32, lows_u64, lows_i64, lows_str, allSome, allRw, blksOk_nil, blksOk_none, blksOk_some, getH_zero, getH_succ, getH_nil]) (by simp [-List.map_map, -List.map_set, vtuple_zero, rens_append, lows_append, sgOf_zero, sgOf_succ, rens, V.ren, lows, V.low, rens_u8, rens_u32, rens_u64, rens_i64, rens_str, lows_u8, lows_u32, lows_u64, lows_i64, lows_str, allSome, allRw, blksOk_nil, blksOk_none, blksOk_some, getH_zero, getH_succ, getH_nil]) (by simp [-List.map_map, -List.map_set, vtuple_zero, rens_append, lows_append, sgOf_zero, sgOf_succ, rens, V.ren, lows, V.low, rens_u8, rens_u32, rens_u64, rens_i64, rens_str, lows_u8, lows_u32, lows_u64, lows_i64, lows_str, allSome, allRw, blksOk_nil, blksOk_none, blksOk_some, getH_zero, getH_succ, getH_nil]) (by simp [-List.map_map, -List.map_set, vtuple_zero, rens_append, lows_append, sgOf_zero, sgOf_succ, rens, V.ren, lows, V.low, rens_u8, rens_u32, rens_u64, rens_i64, rens_str, lows_u8, lows_u32, lows_u64, lows_i64, lows_str, allSome, allRw, blksOk_nil, blksOk_none, blksOk_some, getH_zero, getH_succ, getH_nil]) (by simp) ?_
      simp only [go_sem, ↓reduceIte, Nat.reduceEqDiff, Nat.reduceLT, Nat.reduceLeDiff, Nat.reduceAdd, Nat.reduceSub, Nat.reduceMul, Nat.reduceMod, Nat.reduceDiv, Int.reduceLE, Int.reduceLT, Int.reduceToNat, Int.reduceAdd, Int.reduceSub, Int.reduceMul, Int.reduceEq, Int.reduceNeg, BitVec.reduceOfInt, BitVec.reduceToNat, BitVec.reduceEq, BitVec.reduceNe, BitVec.reduceLT, reduceCtorEq, List.forall_mem_nil]
      refine goCall_mem [2] (hro) (by kernel_rfl) (by simp [-List.map_map, -List.map_set, vtuple_zero, rens_append, lows_append, sgOf_zero, sgOf_succ, rens, V.ren, lows, V.low, rens_u8, rens_u32, rens_u64, rens_i64, rens_str, lows_u8, lows_u32, lows_u64, lows_i64, lows_str, allSome, allRw, blksOk_nil, blksOk_none, blksOk_some, getH_zero, getH_succ, getH_nil]) rfl (by simp [-List.map_map, -List.map_set, vtuple_zero, rens_append, lows_append, sgOf_zero, sgOf_succ, rens, V.ren, lows, V.low, rens_u8, rens_u32, rens_u64, rens_i64, rens_str, lows_u8, lows_u32, lows_u64, lows_i64, lows_str, allSome, allRw, blksOk_nil, blksOk_none, blksOk_some, getH_zero, getH_succ, getH_nil]) (by decide) (by simp [-List.map_map, -List.map_set, vtuple_zero, rens_append, lows_append, sgOf_zero, sgOf_succ, rens, V.ren, lows, V.low, rens_u8, rens_u32, rens_u64, rens_i64, rens_str, lows_u8, lows_u32, lows_u64, lows_i64, lows_str, allSome, allRw, blksOk_nil, blksOk_none, blksOk_some, getH_zero, getH_succ, getH_nil]) (by simp [-List.map_map, -List.map_set, vtuple_zero, rens_append, lows_append, sgOf_zero, sgOf_succ, rens, V.ren, lows, V.low, rens_u8, rens_u32, rens_u64, rens_i64, rens_str, lows_u8, lows_u32, lows_u64, lows_i64, lows_str, allSome, allRw, blksOk_nil, blksOk_none, blksOk_some, getH_zero, getH_succ, getH_nil]) (by simp [-List.map_map, -List.map_set, vtuple_zero, rens_append, lows_append, sgOf_zero, sgOf_succ, rens, V.ren, lows, V.low, rens_u8, rens_u32, rens_u64, rens_i64, rens_str, lows_u8, lows_u32, lows_u64, lows_i64, lows_str, allSome, allRw, blksOk_nil, blksOk_none, blksOk_some, getH_zero, getH_succ, getH_nil]) (by simp [-List.map_map, -List.map_set, vtuple_zero, rens_append, lows_append, sgOf_zero, sgOf_succ, rens, V.ren, lows, V.low, rens_u8, rens_u32, rens_u64, rens_i64, rens_str, lows_u8, lows_u32, lows_u64, lows_i64, lows_str, allSome, allRw, blksOk_nil, blksOk_none, blksOk_some, getH_zero, getH_succ, getH_nil]) (by simp) ?_
      simp only [go_sem, ↓reduceIte, Nat.reduceEqDiff, Nat.reduceLT, Nat.reduceLeDiff, Nat.reduceAdd, Nat.reduceSub, Nat.reduceMul, Nat.reduceMod, Nat.reduceDiv, Int.reduceLE, Int.reduceLT, Int.reduceToNat, Int.reduceAdd, Int.reduceSub, Int.reduceMul, Int.reduceEq, Int.reduceNeg, BitVec.reduceOfInt, BitVec.reduceToNat, BitVec.reduceEq, BitVec.reduceNe, BitVec.reduceLT, reduceCtorEq, List.forall_mem_nil, hl']
      refine goCall_mem [2] (had) (by kernel_rfl) (by simp [-List.map_map, -List.map_set, vtuple_zero, rens_append, lows_append, sgOf_zero, sgOf_succ, rens, V.ren, lows, V.low, rens_u8, rens_u32, rens_u64, rens_i64, rens_str, lows_u8, lows_u32, lows_u64, lows_i64, lows_str, allSome, allRw, blksOk_nil, blksOk_none, blksOk_some, getH_zero, getH_succ, getH_nil]) rfl (by simp [-List.map_map, -List.map_set, vtuple_zero, rens_append, lows_append, sgOf_zero, sgOf_succ, rens, V.ren, lows, V.low, rens_u8, rens_u32, rens_u64, rens_i64, rens_str, lows_u8, lows_u32, lows_u64, lows_i64, lows_str, allSome, allRw, blksOk_nil, blksOk_none, blksOk_some, getH_zero, getH_succ, getH_nil]) (by decide) (by simp [-List.map_map, -List.map_set, vtuple_zero, rens_append, lows_append, sgOf_zero, sgOf_succ, rens, V.ren, lows, V.low, rens_u8, rens_u32, rens_u64, rens_i64, rens_str, lows_u8, lows_u32, lows_u64, lows_i64, lows_str, allSome, allRw, blksOk_nil, blksOk_none, blksOk_some, getH_zero, getH_succ, getH_nil]) (by simp [-List.map_map, -List.map_set, vtuple_zero, rens_append, lows_append, sgOf_zero, sgOf_succ, rens, V.ren, lows, V.low, rens_u8, rens_u32, rens_u64, rens_i64, rens_str, lows_u8, lows_u32, lows_u64, lows_i64, lows_str, allSome, allRw, blksOk_nil, blksOk_none, blksOk_some, getH_zero, getH_succ, getH_nil]) (by simp [-List.map_map, -List.map_set, vtuple_zero, rens_append, lows_append, sgOf_zero, sgOf_succ, rens, V.ren, lows, V.low, rens_u8, rens_u32, rens_u64, rens_i64, rens_str, lows_u8, lows_u32, lows_u64, lows_i64, lows_str, allSome, allRw, blksOk_nil, blksOk_none, blksOk_some, getH_zero, getH_succ, getH_nil]) (by simp [-List.map_map, -List.map_set, vtuple_zero, rens_append, lows_append, sgOf_zero, sgOf_succ, rens, V.ren, lows, V.low, rens_u8, rens_u32, rens_u64, rens_i64, rens_str, lows_u8, lows_u32, lows_u64, lows_i64, lows_str, allSome, allRw, blksOk_nil, blksOk_none, blksOk_some, getH_zero, getH_succ, getH_nil]) (by simp) ?_
      simp only [go_sem, ↓reduceIte, Nat.reduceEqDiff, Nat.reduceLT, Nat.reduceLeDiff, Nat.reduceAdd, Nat.reduceSub, Nat.reduceMul, Nat.reduceMod, Nat.reduceDiv, Int.reduceLE, Int.reduceLT, Int.reduceToNat, Int.reduceAdd, Int.reduceSub, Int.reduceMul, Int.reduceEq, Int.reduceNeg, BitVec.reduceOfInt, BitVec.reduceToNat, BitVec.reduceEq, BitVec.reduceNe, BitVec.reduceLT, reduceCtorEq, List.forall_mem_nil, g2, List.take_length, hdd]
      exact again_ren (j - 1) ⟨[(0, .ptr 0 0), (5, .str (K.drop (16 * (i + 1 + 1)))), (6, .ptr 2 0)], [some ⟨false, [.ptr 1 0, .str K]⟩, some ⟨false, T.map .u8⟩, some ⟨false, (encS t K R (i + 1)).map .u8⟩]⟩ [0, 1, 2] (by omega) rfl (by simp) rfl (by decide) (by simp [slotsOk, St.get, lookS, -List.map_map, -List.map_set, vtuple_zero, rens_append, lows_append, sgOf_zero, sgOf_succ, rens, V.ren, lows, V.low, rens_u8, rens_u32, rens_u64, rens_i64, rens_str, lows_u8, lows_u32, lows_u64, lows_i64, lows_str, allSome, allRw, blksOk_nil, blksOk_none, blksOk_some, getH_zero, getH_succ, getH_nil]) (by simp [-List.map_map, -List.map_set, vtuple_zero, rens_append, lows_append, sgOf_zero, sgOf_succ, rens, V.ren, lows, V.low, rens_u8, rens_u32, rens_u64, rens_i64, rens_str, lows_u8, lows_u32, lows_u64, lows_i64, lows_str, allSome, allRw, blksOk_nil, blksOk_none, blksOk_some, getH_zero, getH_succ, getH_nil]) ⟨i + 1, by omega, rfl⟩
  · obtain rfl : i = R - 1 := by omega
    have hD : K.drop (16 * (R - 1 + 1)) = [] := List.drop_of_length_le (by omega)
    simp only [go_sem, ↓reduceIte, Nat.reduceEqDiff, Nat.reduceLT, Nat.reduceLeDiff, Nat.reduceAdd, Nat.reduceSub, Nat.reduceMul, Nat.reduceMod, Nat.reduceDiv, Int.reduceLE, Int.reduceLT, Int.reduceToNat, Int.reduceAdd, Int.reduceSub, Int.reduceMul, Int.reduceEq, Int.reduceNeg, BitVec.reduceOfInt, BitVec.reduceToNat, BitVec.reduceEq, BitVec.reduceNe, BitVec.reduceLT, reduceCtorEq, List.forall_mem_nil, hD, hel, List.take_of_length_le]
    exact Fin.ren [0, 1] (by simp) (by simp) (by rfl) (by decide) (by simp [-List.map_map, -List.map_set, vtuple_zero, rens_append, lows_append, sgOf_zero, sgOf_succ, rens, V.ren, lows, V.low, rens_u8, rens_u32, rens_u64, rens_i64, rens_str, lows_u8, lows_u32, lows_u64, lows_i64, lows_str, allSome, allRw, blksOk_nil, blksOk_none, blksOk_some, getH_zero, getH_succ, getH_nil]) (by simp [-List.map_map, -List.map_set, vtuple_zero, rens_append, lows_append, sgOf_zero, sgOf_succ, rens, V.ren, lows, V.low, rens_u8, rens_u32, rens_u64, rens_i64, rens_str, lows_u8, lows_u32, lows_u64, lows_i64, lows_str, allSome, allRw, blksOk_nil, blksOk_none, blksOk_some, getH_zero, getH_succ, getH_nil])
end Go.Vm
end
section
namespace Go.Vm
open Go.Proofs
set_option maxRecDepth 20000
/-- A block on its way out, behind i rounds. -/
def decS (t K : List (BitVec 8)) (R : Nat) : Nat → List (BitVec 8)
  | 0 => t
  | i + 1 =>
    let s := xorB (decS t K R i) (K.drop (16 * (R - 1 - i)))
    (rowsB 3 (if 0 < i then colB [14#8, 11#8, 13#8, 9#8] s else s)).map backG
theorem decS_length (t K : List (BitVec 8)) (R : Nat) (ht : t.length = 16) (i : Nat) : (decS t K R i).length = 16 := by
  cases i with
  | zero => exact ht
  | succ i => rw [decS, List.length_map, rowsB_length]
set_option maxHeartbeats 2000000 in
theorem Decrypt_spec (t K T : List (BitVec 8)) (R : Nat) (ht : t.length = 16) (hR : 2 ≤ R) (hR2 : R ≤ 20) (hK : K.length = 16 * R) (hT : T.length = 512) (hf : ∀ b : BitVec 8, T.getD (256 + b.toNat) 0 = backG b) : Spec0 Try.prog 62 [.ptr 0 0, .str t] [some ⟨false, [.ptr 1 0, .str K]⟩, some ⟨false, T.map .u8⟩] (.str (xorB (decS t K R (R - 1)) K)) [some ⟨false, [.ptr 1 0, .str K]⟩, some ⟨false, T.map .u8⟩] := by
  have hsp : splice [.u8 0#8, .u8 0#8, .u8 0#8, .u8 0#8, .u8 0#8, .u8 0#8, .u8 0#8, .u8 0#8, .u8 0#8, .u8 0#8, .u8 0#8, .u8 0#8, .u8 0#8, .u8 0#8, .u8 0#8, .u8 0#8] 0 (t.map V.u8) = t.map V.u8 := splice_all _ _ (by rw [List.length_map, ht]; rfl)
  have htk : List.take 16 (t.map V.u8) = t.map V.u8 := List.take_of_length_le (by rw [List.length_map, ht]; exact Nat.le_refl _)
  have p0 : w64 ((K.length : Int) - 16) = ((16 * (R - 1 - 0) : Nat) : Int) := by rw [w64_of (by omega) (by omega)]; omega
  have p0' : w64 ((K.length : Int) - 16) = ((16 * (R - 1) : Nat) : Int) := by rw [w64_of (by omega) (by omega)]; omega
  refine spec0_of_vc (by kernel_rfl) (fn := Try.f62) Try.func62 rfl (by show 2 ≤ 46; decide) (go_start ?_)
  simp only [go_sem, ↓reduceIte, Nat.reduceEqDiff, Nat.reduceLT, Nat.reduceLeDiff, Nat.reduceAdd, Nat.reduceSub, Nat.reduceMul, Nat.reduceMod, Nat.reduceDiv, Int.reduceLE, Int.reduceLT, Int.reduceToNat, Int.reduceAdd, Int.reduceSub, Int.reduceMul, Int.reduceEq, Int.reduceNeg, BitVec.reduceOfInt, BitVec.reduceToNat, BitVec.reduceEq, BitVec.reduceNe, BitVec.reduceLT, reduceCtorEq, List.forall_mem_nil, Try.ntmps62, Try.results62, ht, hsp, htk]
  refine go_loop (fun j st => ∃ i : Nat, i + j = R - 1 ∧ st = ⟨[(0, .ptr 0 0), (5, .str K), (6, .ptr 2 0), (7, .i64 (16 * (R - 1 - i) : Nat))], [some ⟨false, [.ptr 1 0, .str K]⟩, some ⟨false, T.map .u8⟩, some ⟨false, (decS t K R i).map .u8⟩]⟩) ?_ ?_
  · exact start_ren (R - 1) ⟨[(0, .ptr 0 0), (5, .str K), (6, .ptr 2 0), (7, .i64 (16 * (R - 1 - 0) : Nat))], [some ⟨false, [.ptr 1 0, .str K]⟩, some ⟨false, T.map .u8⟩, some ⟨false, (decS t K R 0).map .u8⟩]⟩ [0, 1, 3] rfl (by simp) rfl (by decide) (by simp [slotsOk, St.get, lookS, p0', -List.map_map, -List.map_set, vtuple_zero, rens_append, lows_append, sgOf_zero, sgOf_succ, rens, V.ren, lows, V.low, rens_u8, rens_u32, rens_u64, rens_i64, rens_str, lows_u8, lows_u32, lows_u64, lows_i64, lows_str, allSome, allRw, blksOk_nil, blksOk_none, blksOk_some, getH_zero, getH_succ, getH_nil]) (by simp [decS, -List.map_map, -List.map_set, vtuple_zero, rens_append, lows_append, sgOf_zero, sgOf_succ, rens, V.ren, lows, V.low, rens_u8, rens_u32, rens_u64, rens_i64, rens_str, lows_u8, lows_u32, lows_u64, lows_i64, lows_str, allSome, allRw, blksOk_nil, blksOk_none, blksOk_some, getH_zero, getH_succ, getH_nil]) ⟨0, by omega, rfl⟩
  rintro j st ⟨i, hi, rfl⟩ _
  have hel := decS_length t K R ht i
  by_cases hl : i < R - 1
  · have q1 : (0 : Int) < ((16 * (R - 1 - i) : Nat) : Int) := by omega
    have q2 : ((16 * (R - 1 - i) : Nat) : Int) ≤ (K.length : Int) := by omega
    have q3 : (0 : Int) ≤ ((16 * (R - 1 - i) : Nat) : Int) := by omega
    have q4 : w64 (((16 * (R - 1 - i) : Nat) : Int) - 16) = ((16 * (R - 1 - (i + 1)) : Nat) : Int) := by rw [w64_of (by omega) (by omega)]; omega
    obtain ⟨D, hD⟩ : ∃ D, D = K.drop (16 * (R - 1 - i)) := ⟨_, rfl⟩
    have hDl : D.length = 16 * (i + 1) := by rw [hD, List.length_drop]; omega
    have had := add_spec (decS t K R i) D hel (by omega) (by omega)
    have hes : decS t K R (i + 1) = (rowsB 3 (if 0 < i then colB [14#8, 11#8, 13#8, 9#8] (xorB (decS t K R i) D) else xorB (decS t K R i) D)).map backG := by rw [hD]; rfl
    have hxl : (xorB (decS t K R i) D).length = 16 := by rw [xorB_length]; omega
    generalize hs1 : xorB (decS t K R i) D = s1 at *
    have hco := columns_spec s1 [14#8, 11#8, 13#8, 9#8] hxl rfl
    by_cases hi0 : 0 < i
    · have hl' : ((16 * (R - 1 - i) : Nat) : Int) < ((16 * (R - 1) : Nat) : Int) := by omega
      rw [if_pos hi0] at hes
      have hro := rows_spec (colB [14#8, 11#8, 13#8, 9#8] s1) 3 (colB_length _ _) (by decide)
      have hth := through_spec (rowsB 3 (colB [14#8, 11#8, 13#8, 9#8] s1)) T 256 backG (rowsB_length _ _) hT (by omega) hf
      rw [← hes] at hth
      simp only [go_sem, ↓reduceIte, Nat.reduceEqDiff, Nat.reduceLT, Nat.reduceLeDiff, Nat.reduceAdd, Nat.reduceSub, Nat.reduceMul, Nat.reduceMod, Nat.reduceDiv, Int.reduceLE, Int.reduceLT, Int.reduceToNat, Int.reduceAdd, Int.reduceSub, Int.reduceMul, Int.reduceEq, Int.reduceNeg, BitVec.reduceOfInt, BitVec.reduceToNat, BitVec.reduceEq, BitVec.reduceNe, BitVec.reduceLT, reduceCtorEq, List.forall_mem_nil, q1, q2, q3, ← hD]
      refine goCall_mem [2] (had) (by kernel_rfl) (by simp [-List.map_map, -List.map_set, vtuple_zero, rens_append, lows_append, sgOf_zero, sgOf_succ, rens, V.ren, lows, V.low, rens_u8, rens_u32, rens_u64, rens_i64, rens_str, lows_u8, lows_u32, lows_u64, lows_i64, lows_str, allSome, allRw, blksOk_nil, blksOk_none, blksOk_some, getH_zero, getH_succ, getH_nil]) rfl (by simp [-List.map_map, -List.map_set, vtuple_zero, rens_append, lows_append, sgOf_zero, sgOf_succ, rens, V.ren, lows, V.low, rens_u8, rens_u32, rens_u64, rens_i64, rens_str, lows_u8, lows_u32, lows_u64, lows_i64, lows_str, allSome, allRw, blksOk_nil, blksOk_none, blksOk_some, getH_zero, getH_succ, getH_nil]) (by decide) (by simp [-List.map_map, -List.map_set, vtuple_zero, rens_append, lows_append, sgOf_zero, sgOf_succ, rens, V.ren, lows, V.low, rens_u8, rens_u32, rens_u64, rens_i64, rens_str, lows_u8, lows_u32, lows_u64, lows_i64, lows_str, allSome, allRw, blksOk_nil, blksOk_none, blksOk_some, getH_zero, getH_succ, getH_nil]) (by simp [-List.map_map, -List.map_set, vtuple_zero, rens_append, lows_append, sgOf_zero, sgOf_succ, rens, V.ren, lows, V.low, rens_u8, rens_u32, rens_u64, rens_i64, rens_str, lows_u8, lows_u32, lows_u64, lows_i64, lows_str, allSome, allRw, blksOk_nil, blksOk_none, blksOk_some, getH_zero, getH_succ, getH_nil]) (by simp [-List.map_map, -List.map_set, vtuple_zero, rens_append, lows_append, sgOf_zero, sgOf_succ, rens, V.ren, lows, V.low, rens_u8, rens_u32, rens_u64, rens_i64, rens_str, lows_u8, lows_u32, lows_u64, lows_i64, lows_str, allSome, allRw, blksOk_nil, blksOk_none, blksOk_some, getH_zero, getH_succ, getH_nil]) (by simp [-List.map_map, -List.map_set, vtuple_zero, rens_append, lows_append, sgOf_zero, sgOf_succ, rens, V.ren, lows, V.low, rens_u8, rens_u32, rens_u64, rens_i64, rens_str, lows_u8, lows_u32, lows_u64, lows_i64, lows_str, allSome, allRw, blksOk_nil, blksOk_none, blksOk_some, getH_zero, getH_succ, getH_nil]) (by simp) ?_
      simp only [go_sem, ↓reduceIte, Nat.reduceEqDiff, Nat.reduceLT, Nat.reduceLeDiff, Nat.reduceAdd, Nat.reduceSub, Nat.reduceMul, Nat.reduceMod, Nat.reduceDiv, Int.reduceLE, Int.reduceLT, Int.reduceToNat, Int.reduceAdd, Int.reduceSub, Int.reduceMul, Int.reduceEq, Int.reduceNeg, BitVec.reduceOfInt, BitVec.reduceToNat, BitVec.reduceEq, BitVec.reduceNe, BitVec.reduceLT, reduceCtorEq, List.forall_mem_nil, p0', hl']
      refine goCall_mem [2] (hco) (by kernel_rfl) (by simp [-List.map_map, -List.map_set, vtuple_zero, rens_append, lows_append, sgOf_zero, sgOf_succ, rens, V.ren, lows, V.low, rens_u8, rens_u32, rens_u64, rens_i64, rens_str, lows_u8, lows_u32, lows_u64, lows_i64, lows_str, allSome, allRw, blksOk_nil, blksOk_none, blksOk_some, getH_zero, getH_succ, getH_nil]) rfl (by simp [-List.map_map, -List.map_set, vtuple_zero, rens_append, lows_append, sgOf_zero, sgOf_succ, rens, V.ren, lows, V.low, rens_u8, rens_u32, rens_u64, rens_i64, rens_str, lows_u8, lows_u32, lows_u64, lows_i64, lows_str, allSome, allRw, blksOk_nil, blksOk_none, blksOk_some, getH_zero, getH_succ, getH_nil]) (by decide) (by simp [-List.map_map, -List.map_set, vtuple_zero, rens_append, lows_append, sgOf_zero, sgOf_succ, rens, V.ren, lows, V.low, rens_u8, rens_u32, rens_u64, rens_i64, rens_str, lows_u8, lows_u32, lows_u64, lows_i64, lows_str, allSome, allRw, blksOk_nil, blksOk_none, blksOk_some, getH_zero, getH_succ, getH_nil]) (by simp [-List.map_map, -List.map_set, vtuple_zero, rens_append, lows_append, sgOf_zero, sgOf_succ, rens, V.ren, lows, V.low, rens_u8, rens_u32, rens_u64, rens_i64, rens_str, lows_u8, lows_u32, lows_u64, lows_i64, lows_str, allSome, allRw, blksOk_nil, blksOk_none, blksOk_some, getH_zero, getH_succ, getH_nil]) (by simp [-List.map_map, -List.map_set, vtuple_zero, rens_append, lows_append, sgOf_zero, sgOf_succ, rens, V.ren, lows, V.low, rens_u8, rens_u32, rens_u64, rens_i64, rens_str, lows_u8, lows_u32, lows_u64, lows_i64, lows_str, allSome, allRw, blksOk_nil, blksOk_none, blksOk_some, getH_zero, getH_succ, getH_nil]) (by simp [-List.map_map, -List.map_set, vtuple_zero, rens_append, lows_append, sgOf_zero, sgOf_succ, rens, V.ren, lows, V.low, rens_u8, rens_u32, rens_u64, rens_i64, rens_str, lows_u8, lows_u32, lows_u64, lows_i64, lows_str, allSome, allRw, blksOk_nil, blksOk_none, blksOk_some, getH_zero, getH_succ, getH_nil]) (by simp) ?_
      simp only [go_sem, ↓reduceIte, Nat.reduceEqDiff, Nat.reduceLT, Nat.reduceLeDiff, Nat.reduceAdd, Nat.reduceSub, Nat.reduceMul, Nat.reduceMod, Nat.reduceDiv, Int.reduceLE, Int.reduceLT, Int.reduceToNat, Int.reduceAdd, Int.reduceSub, Int.reduceMul, Int.reduceEq, Int.reduceNeg, BitVec.reduceOfInt, BitVec.reduceToNat, BitVec.reduceEq, BitVec.reduceNe, BitVec.reduceLT, reduceCtorEq, List.forall_mem_nil]
      refine goCall_mem [2] (hro) (by kernel_rfl) (by simp [-List.map_map, -List.map_set, vtuple_zero, rens_append, lows_append, sgOf_zero, sgOf_succ, rens, V.ren, lows, V.low, rens_u8, rens_u32, rens_u64, rens_i64, rens_str, lows_u8, lows_u32, lows_u64, lows_i64, lows_str, allSome, allRw, blksOk_nil, blksOk_none, blksOk_some, getH_zero, getH_succ, getH_nil]) rfl (by simp [-List.map_map, -List.map_set, vtuple_zero, rens_append, lows_append, sgOf_zero, sgOf_succ, rens, V.ren, lows, V.low, rens_u8, rens_u32, rens_u64, rens_i64, rens_str, lows_u8, lows_u32, lows_u64, lows_i64, lows_str, allSome, allRw, blksOk_nil, blksOk_none, blksOk_some, getH_zero, getH_succ, getH_nil]) (by decide) (by simp [-List.map_map, -List.map_set, vtuple_zero, rens_append, lows_append, sgOf_zero, sgOf_succ, rens, V.ren, lows, V.low, rens_u8, rens_u32, rens_u64, rens_i64, rens_str, lows_u8, lows_u32, lows_u64, lows_i64, lows_str, allSome, allRw, blksOk_nil, blksOk_none, blksOk_some, getH_zero, getH_succ, getH_nil]) (by simp [-List.map_map, -List.map_set, vtuple_zero, rens_append, lows_append, sgOf_zero, sgOf_succ, rens, V.ren, lows, V.low, rens_u8, rens_u32, rens_u64, rens_i64, rens_str, lows_u8, lows_u32, lows_u64, lows_i64, lows_str, allSome, allRw, blksOk_nil, blksOk_none, blksOk_some, getH_zero, getH_succ, getH_nil]) (by simp [-List.map_map, -List.map_set, vtuple_zero, rens_append, lows_append, sgOf_zero, sgOf_succ, rens, V.ren, lows, V.low, rens_u8, rens_u32, rens_u64, rens_i64, rens_str, lows_u8, lows_u32, lows_u64, lows_i64, lows_str, allSome, allRw, blksOk_nil, blksOk_none, blksOk_some, getH_zero, getH_succ, getH_nil]) (by simp [-List.map_map, -List.map_set, vtuple_zero, rens_append, lows_append, sgOf_zero, sgOf_succ, rens, V.ren, lows, V.low, rens_u8, rens_u32, rens_u64, rens_i64, rens_str, lows_u8, lows_u32, lows_u64, lows_i64, lows_str, allSome, allRw, blksOk_nil, blksOk_none, blksOk_some, getH_zero, getH_succ, getH_nil]) (by simp) ?_
      simp only [go_sem, ↓reduceIte, Nat.reduceEqDiff, Nat.reduceLT, Nat.reduceLeDiff, Nat.reduceAdd, Nat.reduceSub, Nat.reduceMul, Nat.reduceMod, Nat.reduceDiv, Int.reduceLE, Int.reduceLT, Int.reduceToNat, Int.reduceAdd, Int.reduceSub, Int.reduceMul, Int.reduceEq, Int.reduceNeg, BitVec.reduceOfInt, BitVec.reduceToNat, BitVec.reduceEq, BitVec.reduceNe, BitVec.reduceLT, reduceCtorEq, List.forall_mem_nil]
      refine goCall_mem [2, 1] (hth) (by kernel_rfl) (by simp [-List.map_map, -List.map_set, vtuple_zero, rens_append, lows_append, sgOf_zero, sgOf_succ, rens, V.ren, lows, V.low, rens_u8, rens_u32, rens_u64, rens_i64, rens_str, lows_u8, lows_u32, lows_u64, lows_i64, lows_str, allSome, allRw, blksOk_nil, blksOk_none, blksOk_some, getH_zero, getH_succ, getH_nil]) rfl (by simp [-List.map_map, -List.map_set, vtuple_zero, rens_append, lows_append, sgOf_zero, sgOf_succ, rens, V.ren, lows, V.low, rens_u8, rens_u32, rens_u64, rens_i64, rens_str, lows_u8, lows_u32, lows_u64, lows_i64, lows_str, allSome, allRw, blksOk_nil, blksOk_none, blksOk_some, getH_zero, getH_succ, getH_nil]) (by decide) (by simp [-List.map_map, -List.map_set, vtuple_zero, rens_append, lows_append, sgOf_zero, sgOf_succ, rens, V.ren, lows, V.low, rens_u8, rens_u32, rens_u64, rens_i64, rens_str, lows_u8, lows_u32, lows_u64, lows_i64, lows_str, allSome, allRw, blksOk_nil, blksOk_none, blksOk_some, getH_zero, getH_succ, getH_nil]) (by simp [-List.map_map, -List.map_set, vtuple_zero, rens_append, lows_append, sgOf_zero, sgOf_succ, rens, V.ren, lows, V.low, rens_u8, rens_u32, rens_u64, rens_i64, rens_str, lows_u8, lows_u32, lows_u64, lows_i64, lows_str, allSome, allRw, blksOk_nil, blksOk_none, blksOk_some, getH_zero, getH_succ, getH_nil]) (by simp [-List.map_map, -List.map_set, vtuple_zero, rens_append, lows_append, sgOf_zero, sgOf_succ, rens, V.ren, lows, V.low, rens_u8, rens_u32, rens_u64, rens_i64, rens_str, lows_u8, lows_u32, lows_u64, lows_i64, lows_str, allSome, allRw, blksOk_nil, blksOk_none, blksOk_some, getH_zero, getH_succ, getH_nil]) (by simp [-List.map_map, -List.map_set, vtuple_zero, rens_append, lows_append, sgOf_zero, sgOf_succ, rens, V.ren, lows, V.low, rens_u8, rens_u32, rens_u64, rens_i64, rens_str, lows_u8, lows_u32, lows_u64, lows_i64, lows_str, allSome, allRw, blksOk_nil, blksOk_none, blksOk_some, getH_zero, getH_succ, getH_nil]) (by simp) ?_
      simp only [go_sem, ↓reduceIte, Nat.reduceEqDiff, Nat.reduceLT, Nat.reduceLeDiff, Nat.reduceAdd, Nat.reduceSub, Nat.reduceMul, Nat.reduceMod, Nat.reduceDiv, Int.reduceLE, Int.reduceLT, Int.reduceToNat, Int.reduceAdd, Int.reduceSub, Int.reduceMul, Int.reduceEq, Int.reduceNeg, BitVec.reduceOfInt, BitVec.reduceToNat, BitVec.reduceEq, BitVec.reduceNe, BitVec.reduceLT, reduceCtorEq, List.forall_mem_nil, q4]
      exact again_ren (j - 1) ⟨[(0, .ptr 0 0), (5, .str K), (6, .ptr 2 0), (7, .i64 (16 * (R - 1 - (i + 1)) : Nat))], [some ⟨false, [.ptr 1 0, .str K]⟩, some ⟨false, T.map .u8⟩, some ⟨false, (decS t K R (i + 1)).map .u8⟩]⟩ [0, 1, 2] (by omega) rfl (by simp) rfl (by decide) (by simp [slotsOk, St.get, lookS, -List.map_map, -List.map_set, vtuple_zero, rens_append, lows_append, sgOf_zero, sgOf_succ, rens, V.ren, lows, V.low, rens_u8, rens_u32, rens_u64, rens_i64, rens_str, lows_u8, lows_u32, lows_u64, lows_i64, lows_str, allSome, allRw, blksOk_nil, blksOk_none, blksOk_some, getH_zero, getH_succ, getH_nil]) (by simp [-List.map_map, -List.map_set, vtuple_zero, rens_append, lows_append, sgOf_zero, sgOf_succ, rens, V.ren, lows, V.low, rens_u8, rens_u32, rens_u64, rens_i64, rens_str, lows_u8, lows_u32, lows_u64, lows_i64, lows_str, allSome, allRw, blksOk_nil, blksOk_none, blksOk_some, getH_zero, getH_succ, getH_nil]) ⟨i + 1, by omega, rfl⟩
    · have hl' : ¬ ((16 * (R - 1 - i) : Nat) : Int) < ((16 * (R - 1) : Nat) : Int) := by omega
      rw [if_neg hi0] at hes
      have hro := rows_spec s1 3 hxl (by decide)
      have hth := through_spec (rowsB 3 s1) T 256 backG (rowsB_length _ _) hT (by omega) hf
      rw [← hes] at hth
      simp only [go_sem, ↓reduceIte, Nat.reduceEqDiff, Nat.reduceLT, Nat.reduceLeDiff, Nat.reduceAdd, Nat.reduceSub, Nat.reduceMul, Nat.reduceMod, Nat.reduceDiv, Int.reduceLE, Int.reduceLT, Int.reduceToNat, Int.reduceAdd, Int.reduceSub, Int.reduceMul, Int.reduceEq, Int.reduceNeg, BitVec.reduceOfInt, BitVec.reduceToNat, BitVec.reduceEq, BitVec.reduceNe, BitVec.reduceLT, reduceCtorEq, List.forall_mem_nil, q1, q2, q3, ← hD]
      refine goCall_mem [2] (had) (by kernel_rfl) (by simp [-List.map_map, -List.map_set, vtuple_zero, rens_append, lows_append, sgOf_zero, sgOf_succ, rens, V.ren, lows, V.low, rens_u8, rens_u32, rens_u64, rens_i64, rens_str, lows_u8, lows_u32, lows_u64, lows_i64, lows_str, allSome, allRw, blksOk_nil, blksOk_none, blksOk_some, getH_zero, getH_succ, getH_nil]) rfl (by simp [-List.map_map, -List.map_set, vtuple_zero, rens_append, lows_append, sgOf_zero, sgOf_succ, rens, V.ren, lows, V.low, rens_u8, rens_u32, rens_u64, rens_i64, rens_str, lows_u8, lows_u32, lows_u64, lows_i64, lows_str, allSome, allRw, blksOk_nil, blksOk_none, blksOk_some, getH_zero, getH_succ, getH_nil]) (by decide) (by simp [-List.map_map, -List.map_set, vtuple_zero, rens_append, lows_append, sgOf_zero, sgOf_succ, rens, V.ren, lows, V.low, rens_u8, rens_u32, rens_u64, rens_i64, rens_str, lows_u8, lows_u32, lows_u64, lows_i64, lows_str, allSome, allRw, blksOk_nil, blksOk_none, blksOk_some, getH_zero, getH_succ, getH_nil]) (by simp [-List.map_map, -List.map_set, vtuple_zero, rens_append, lows_append, sgOf_zero, sgOf_succ, rens, V.ren, lows, V.low, rens_u8, rens_u32, rens_u64, rens_i64, rens_str, lows_u8, lows_u32, lows_u64, lows_i64, lows_str, allSome, allRw, blksOk_nil, blksOk_none, blksOk_some, getH_zero, getH_succ, getH_nil]) (by simp [-List.map_map, -List.map_set, vtuple_zero, rens_append, lows_append, sgOf_zero, sgOf_succ, rens, V.ren, lows, V.low, rens_u8, rens_u32, rens_u64, rens_i64, rens_str, lows_u8, lows_u32, lows_u64, lows_i64, lows_str, allSome, allRw, blksOk_nil, blksOk_none, blksOk_some, getH_zero, getH_succ, getH_nil]) (by simp [-List.map_map, -List.map_set, vtuple_zero, rens_append, lows_append, sgOf_zero, sgOf_succ, rens, V.ren, lows, V.low, rens_u8, rens_u32, rens_u64, rens_i64, rens_str, lows_u8, lows_u32, lows_u64, lows_i64, lows_str, allSome, allRw, blksOk_nil, blksOk_none, blksOk_some, getH_zero, getH_succ, getH_nil]) (by simp) ?_
      simp only [go_sem, ↓reduceIte, Nat.reduceEqDiff, Nat.reduceLT, Nat.reduceLeDiff, Nat.reduceAdd, Nat.reduceSub, Nat.reduceMul, Nat.reduceMod, Nat.reduceDiv, Int.reduceLE, Int.reduceLT, Int.reduceToNat, Int.reduceAdd, Int.reduceSub, Int.reduceMul, Int.reduceEq, Int.reduceNeg, BitVec.reduceOfInt, BitVec.reduceToNat, BitVec.reduceEq, BitVec.reduceNe, BitVec.reduceLT, reduceCtorEq, List.forall_mem_nil, p0', hl']
      refine goCall_mem [2] (hro) (by kernel_rfl) (by simp [-List.map_map, -List.map_set, vtuple_zero, rens_append, lows_append, sgOf_zero, sgOf_succ, rens, V.ren, lows, V.low, rens_u8, rens_u32, rens_u64, rens_i64, rens_str, lows_u8, lows_u32, lows_u64, lows_i64, lows_str, allSome, allRw, blksOk_nil, blksOk_none, blksOk_some, getH_zero, getH_succ, getH_nil]) rfl (by simp [-List.map_map, -List.map_set, vtuple_zero, rens_append, lows_append, sgOf_zero, sgOf_succ, rens, V.ren, lows, V.low, rens_u8, rens_u32, rens_u64, rens_i64, rens_str, lows_u8, lows_u32, lows_u64, lows_i64, lows_str, allSome, allRw, blksOk_nil, blksOk_none, blksOk_some, getH_zero, getH_succ, getH_nil]) (by decide) (by simp [-List.map_map, -List.map_set, vtuple_zero, rens_append, lows_append, sgOf_zero, sgOf_succ, rens, V.ren, lows, V.low, rens_u8, rens_u32, rens_u64, rens_i64, rens_str, lows_u8, lows_u32, lows_u64, lows_i64, lows_str, allSome, allRw, blksOk_nil, blksOk_none, blksOk_some, getH_zero, getH_succ, getH_nil]) (by simp [-List.map_map, -List.map_set, vtuple_zero, rens_append, lows_append, sgOf_zero, sgOf_succ, rens, V.ren, lows, V.low, rens_u8, rens_u32, rens_u64, rens_i64, rens_str, lows_u8, lows_u32, lows_u64, lows_i64, lows_str, allSome, allRw, blksOk_nil, blksOk_none, blksOk_some, getH_zero, getH_succ, getH_nil]) (by simp [-List.map_map, -List.map_set, vtuple_zero, rens_append, lows_append, sgOf_zero, sgOf_succ, rens, V.ren, lows, V.low, rens_u8, rens_u32, rens_u64, rens_i64, rens_str, lows_u8, lows_u32, lows_u64, lows_i64, lows_str, allSome, allRw, blksOk_nil, blksOk_none, blksOk_some, getH_zero, getH_succ, getH_nil]) (by simp [-List.map_map, -List.map_set, vtuple_zero, rens_append, lows_append, sgOf_zero, sgOf_succ, rens, V.ren, lows, V.low, rens_u8, rens_u32, rens_u64, rens_i64, rens_str, lows_u8, lows_u32, lows_u64, lows_i64, lows_str, allSome, allRw, blksOk_nil, blksOk_none, blksOk_some, getH_zero, getH_succ, getH_nil]) (by simp) ?_
      simp only [go_sem, ↓reduceIte, Nat.reduceEqDiff, Nat.reduceLT, Nat.reduceLeDiff, Nat.reduceAdd, Nat.reduceSub, Nat.reduceMul, Nat.reduceMod, Nat.reduceDiv, Int.reduceLE, Int.reduceLT, Int.reduceToNat, Int.reduceAdd, Int.reduceSub, Int.reduceMul, Int.reduceEq, Int.reduceNeg, BitVec.reduceOfInt, BitVec.reduceToNat, BitVec.reduceEq, BitVec.reduceNe, BitVec.reduceLT, reduceCtorEq, List.forall_mem_nil]
      refine goCall_mem [2, 1] (hth) (by kernel_rfl) (by simp [-List.map_map, -List.map_set, vtuple_zero, rens_append, lows_append, sgOf_zero, sgOf_succ, rens, V.ren, lows, V.low, rens_u8, rens_u32, rens_u64, rens_i64, rens_str, lows_u8, lows_u32, lows_u64, lows_i64, lows_str, allSome, allRw, blksOk_nil, blksOk_none, blksOk_some, getH_zero, getH_succ, getH_nil]) rfl (by simp [-List.map_map, -List.map_set, vtuple_zero, rens_append, lows_append, sgOf_zero, sgOf_succ, rens, V.ren, lows, V.low, rens_u8, rens_u32, rens_u64, rens_i64, rens_str, lows_u8, lows_u32, lows_u64, lows_i64, lows_str, allSome, allRw, blksOk_nil, blksOk_none, blksOk_some, getH_zero, getH_succ, getH_nil]) (by decide) (by simp [-List.map_map, -List.map_set, vtuple_zero, rens_append, lows_append, sgOf_zero, sgOf_succ, rens, V.ren, lows, V.low, rens_u8, rens_u32, rens_u64, rens_i64, rens_str, lows_u8, lows_u32, lows_u64, lows_i64, lows_str, allSome, allRw, blksOk_nil, blksOk_none, blksOk_some, getH_zero, getH_succ, getH_nil]) (by simp [-List.map_map, -List.map_set, vtuple_zero, rens_append, lows_append, sgOf_zero, sgOf_succ, rens, V.ren, lows, V.low, rens_u8, rens_u32, rens_u64, rens_i64, rens_str, lows_u8, lows_u32, lows_u64, lows_i64, lows_str, allSome, allRw, blksOk_nil, blksOk_none, blksOk_some, getH_zero, getH_succ, getH_nil]) (by simp [-List.map_map, -List.map_set, vtuple_zero, rens_append, lows_append, sgOf_zero, sgOf_succ, rens, V.ren, lows, V.low, rens_u8, rens_u32, rens_u64, rens_i64, rens_str, lows_u8, lows_u32, lows_u64, lows_i64, lows_str, allSome, allRw, blksOk_nil, blksOk_none, blksOk_some, getH_zero, getH_succ, getH_nil]) (by simp [-List.map_map, -List.map_set, vtuple_zero, rens_append, lows_append, sgOf_zero, sgOf_succ, rens, V.ren, lows, V.low, rens_u8, rens_u32, rens_u64, rens_i64, rens_str, lows_u8, lows_u32, lows_u64, lows_i64, lows_str, allSome, allRw, blksOk_nil, blksOk_none, blksOk_some, getH_zero, getH_succ, getH_nil]) (by simp) ?_
      simp only [go_sem, ↓reduceIte, Nat.reduceEqDiff, Nat.reduceLT, Nat.reduceLeDiff, Nat.reduceAdd, Nat.reduceSub, Nat.reduceMul, Nat.reduceMod, Nat.reduceDiv, Int.reduceLE, Int.reduceLT, Int.reduceToNat, Int.reduceAdd, Int.reduceSub, Int.reduceMul, Int.reduceEq, Int.reduceNeg, BitVec.reduceOfInt, BitVec.reduceToNat, BitVec.reduceEq, BitVec.reduceNe, BitVec.reduceLT, reduceCtorEq, List.forall_mem_nil, q4]
      exact again_ren (j - 1) ⟨[(0, .ptr 0 0), (5, .str K), (6, .ptr 2 0), (7, .i64 (16 * (R - 1 - (i + 1)) : Nat))], [some ⟨false, [.ptr 1 0, .str K]⟩, some ⟨false, T.map .u8⟩, some ⟨false, (decS t K R (i + 1)).map .u8⟩]⟩ [0, 1, 2] (by omega) rfl (by simp) rfl (by decide) (by simp [slotsOk, St.get, lookS, -List.map_map, -List.map_set, vtuple_zero, rens_append, lows_append, sgOf_zero, sgOf_succ, rens, V.ren, lows, V.low, rens_u8, rens_u32, rens_u64, rens_i64, rens_str, lows_u8, lows_u32, lows_u64, lows_i64, lows_str, allSome, allRw, blksOk_nil, blksOk_none, blksOk_some, getH_zero, getH_succ, getH_nil]) (by simp [-List.map_map, -List.map_set, vtuple_zero, rens_append, lows_append, sgOf_zero, sgOf_succ, rens, V.ren, lows, V.low, rens_u8, rens_u32, rens_u64, rens_i64, rens_str, lows_u8, lows_u32, lows_u64, lows_i64, lows_str, allSome, allRw, blksOk_nil, blksOk_none, blksOk_some, getH_zero, getH_succ, getH_nil]) ⟨i + 1, by omega, rfl⟩
  · obtain rfl : i = R - 1 := by omega
    have q1 : ¬ (0 : Int) < ((16 * (R - 1 - (R - 1)) : Nat) : Int) := by omega
    have had := add_spec (decS t K R (R - 1)) K hel (by omega) (by omega)
    have hxl : (xorB (decS t K R (R - 1)) K).length = 16 := by rw [xorB_length]; omega
    simp only [go_sem, ↓reduceIte, Nat.reduceEqDiff, Nat.reduceLT, Nat.reduceLeDiff, Nat.reduceAdd, Nat.reduceSub, Nat.reduceMul, Nat.reduceMod, Nat.reduceDiv, Int.reduceLE, Int.reduceLT, Int.reduceToNat, Int.reduceAdd, Int.reduceSub, Int.reduceMul, Int.reduceEq, Int.reduceNeg, BitVec.reduceOfInt, BitVec.reduceToNat, BitVec.reduceEq, BitVec.reduceNe, BitVec.reduceLT, reduceCtorEq, List.forall_mem_nil, q1, hel]
    refine goCall_mem [2] (had) (by kernel_rfl) (by simp [-List.map_map, -List.map_set, vtuple_zero, rens_append, lows_append, sgOf_zero, sgOf_succ, rens, V.ren, lows, V.low, rens_u8, rens_u32, rens_u64, rens_i64, rens_str, lows_u8, lows_u32, lows_u64, lows_i64, lows_str, allSome, allRw, blksOk_nil, blksOk_none, blksOk_some, getH_zero, getH_succ, getH_nil]) rfl (by simp [-List.map_map, -List.map_set, vtuple_zero, rens_append, lows_append, sgOf_zero, sgOf_succ, rens, V.ren, lows, V.low, rens_u8, rens_u32, rens_u64, rens_i64, rens_str, lows_u8, lows_u32, lows_u64, lows_i64, lows_str, allSome, allRw, blksOk_nil, blksOk_none, blksOk_some, getH_zero, getH_succ, getH_nil]) (by decide) (by simp [-List.map_map, -List.map_set, vtuple_zero, rens_append, lows_append, sgOf_zero, sgOf_succ, rens, V.ren, lows, V.low, rens_u8, rens_u32, rens_u64, rens_i64, rens_str, lows_u8, lows_u32, lows_u64, lows_i64, lows_str, allSome, allRw, blksOk_nil, blksOk_none, blksOk_some, getH_zero, getH_succ, getH_nil]) (by simp [-List.map_map, -List.map_set, vtuple_zero, rens_append, lows_append, sgOf_zero, sgOf_succ, rens, V.ren, lows, V.low, rens_u8, rens_u32, rens_u64, rens_i64, rens_str, lows_u8, lows_u32, lows_u64, lows_i64, lows_str, allSome, allRw, blksOk_nil, blksOk_none, blksOk_some, getH_zero, getH_succ, getH_nil]) (by simp [-List.map_map, -List.map_set, vtuple_zero, rens_append, lows_append, sgOf_zero, sgOf_succ, rens, V.ren, lows, V.low, rens_u8, rens_u32, rens_u64, rens_i64, rens_str, lows_u8, lows_u32, lows_u64, lows_i64, lows_str, allSome, allRw, blksOk_nil, blksOk_none, blksOk_some, getH_zero, getH_succ, getH_nil]) (by simp [-List.map_map, -List.map_set, vtuple_zero, rens_append, lows_append, sgOf_zero, sgOf_succ, rens, V.ren, lows, V.low, rens_u8, rens_u32, rens_u64, rens_i64, rens_str, lows_u8, lows_u32, lows_u64, lows_i64, lows_str, allSome, allRw, blksOk_nil, blksOk_none, blksOk_some, getH_zero, getH_succ, getH_nil]) (by simp) ?_
    simp only [go_sem, ↓reduceIte, Nat.reduceEqDiff, Nat.reduceLT, Nat.reduceLeDiff, Nat.reduceAdd, Nat.reduceSub, Nat.reduceMul, Nat.reduceMod, Nat.reduceDiv, Int.reduceLE, Int.reduceLT, Int.reduceToNat, Int.reduceAdd, Int.reduceSub, Int.reduceMul, Int.reduceEq, Int.reduceNeg, BitVec.reduceOfInt, BitVec.reduceToNat, BitVec.reduceEq, BitVec.reduceNe, BitVec.reduceLT, reduceCtorEq, List.forall_mem_nil, hxl, List.take_of_length_le]
    exact Fin.ren [0, 1] (by simp) (by simp) (by rfl) (by decide) (by simp [-List.map_map, -List.map_set, vtuple_zero, rens_append, lows_append, sgOf_zero, sgOf_succ, rens, V.ren, lows, V.low, rens_u8, rens_u32, rens_u64, rens_i64, rens_str, lows_u8, lows_u32, lows_u64, lows_i64, lows_str, allSome, allRw, blksOk_nil, blksOk_none, blksOk_some, getH_zero, getH_succ, getH_nil]) (by simp [-List.map_map, -List.map_set, vtuple_zero, rens_append, lows_append, sgOf_zero, sgOf_succ, rens, V.ren, lows, V.low, rens_u8, rens_u32, rens_u64, rens_i64, rens_str, lows_u8, lows_u32, lows_u64, lows_i64, lows_str, allSome, allRw, blksOk_nil, blksOk_none, blksOk_some, getH_zero, getH_succ, getH_nil])
end Go.Vm
end
section
namespace Go.Vm
open Go.Proofs
set_option maxRecDepth 20000
/-! Doubling, and what the columns do by it. -/
def dbl (x : BitVec 8) : BitVec 8 := gmul x 2#8
def ndb (x : Nat) : Nat := ngm 8 x 2 0
theorem dbl_chk : and (nall (fun x => and (and (Nat.beq (ngm 8 1 x 0) x) (and (Nat.beq (ngm 8 2 x 0) (ndb x)) (and (Nat.beq (ngm 8 3 x 0) (Nat.xor (ndb x) x)) (Nat.beq (ngm 8 x 3 0) (Nat.xor (ndb x) x))))) (and (and (Nat.beq (ngm 8 14 x 0) (Nat.xor (Nat.xor (ndb (ndb (ndb x))) (ndb (ndb x))) (ndb x))) (Nat.beq (ngm 8 11 x 0) (Nat.xor (Nat.xor (ndb (ndb (ndb x))) (ndb x)) x))) (and (Nat.beq (ngm 8 13 x 0) (Nat.xor (Nat.xor (ndb (ndb (ndb x))) (ndb (ndb x))) x)) (Nat.beq (ngm 8 9 x 0) (Nat.xor (ndb (ndb (ndb x))) x))))) 256) (nall (fun a => nall (fun b => Nat.beq (ndb (Nat.xor a b)) (Nat.xor (ndb a) (ndb b))) 256) 256) = true := by decide +kernel
theorem dbl_nat (x : BitVec 8) : (dbl x).toNat = ndb x.toNat := by unfold dbl ndb; rw [gmul_ngm]; rfl
theorem dbl_xor (a b : BitVec 8) : dbl (a ^^^ b) = dbl a ^^^ dbl b := by
  have hc := dbl_chk
  rw [Bool.and_eq_true] at hc
  have h := nall_get (nall_get hc.2 a.toNat a.isLt) b.toNat b.isLt
  apply BitVec.eq_of_toNat_eq
  rw [BitVec.toNat_xor, dbl_nat, dbl_nat, dbl_nat, BitVec.toNat_xor]
  exact Nat.eq_of_beq_eq_true h
theorem gmuls (x : BitVec 8) : gmul 1#8 x = x ∧ gmul 2#8 x = dbl x ∧ gmul 3#8 x = dbl x ^^^ x ∧ gmul x 3#8 = dbl x ^^^ x ∧ gmul 14#8 x = dbl (dbl (dbl x)) ^^^ dbl (dbl x) ^^^ dbl x ∧ gmul 11#8 x = dbl (dbl (dbl x)) ^^^ dbl x ^^^ x ∧ gmul 13#8 x = dbl (dbl (dbl x)) ^^^ dbl (dbl x) ^^^ x ∧ gmul 9#8 x = dbl (dbl (dbl x)) ^^^ x := by
  have hc := dbl_chk
  rw [Bool.and_eq_true] at hc
  have h := nall_get hc.1 x.toNat x.isLt
  simp only [Bool.and_eq_true] at h
  obtain ⟨⟨a1, a2, a3, a4⟩, ⟨b1, b2⟩, b3, b4⟩ := h
  refine ⟨?_, ?_, ?_, ?_, ?_, ?_, ?_, ?_⟩ <;> apply BitVec.eq_of_toNat_eq <;> simp only [BitVec.toNat_xor, dbl_nat, gmul_ngm]
  · exact Nat.eq_of_beq_eq_true a1
  · exact Nat.eq_of_beq_eq_true a2
  · exact Nat.eq_of_beq_eq_true a3
  · exact Nat.eq_of_beq_eq_true a4
  · exact Nat.eq_of_beq_eq_true b1
  · exact Nat.eq_of_beq_eq_true b2
  · exact Nat.eq_of_beq_eq_true b3
  · exact Nat.eq_of_beq_eq_true b4
/-- A word's column, as the reference mixes her. -/
def mixq (w : List (BitVec 8)) (q : Nat) : BitVec 8 := gmul (w.getD (q % 4) 0) 2#8 ^^^ gmul (w.getD ((q + 1) % 4) 0) 3#8 ^^^ w.getD ((q + 2) % 4) 0 ^^^ w.getD ((q + 3) % 4) 0
/-- The first j bytes of the mixed block. -/
def mixR (s : List (BitVec 8)) : List (BitVec 8) := mk16 fun j => mixq ((s.take (4 * (j / 4) + 4)).drop (4 * (j / 4))) (j % 4)
/-- A byte of a mixed column. -/
def mq (a b c d : BitVec 8) : BitVec 8 := gmul a 2#8 ^^^ gmul b 3#8 ^^^ c ^^^ d
theorem mq_eq (a b c d : BitVec 8) : mq a b c d = dbl a ^^^ (dbl b ^^^ b) ^^^ c ^^^ d := by
  unfold mq; rw [(gmuls b).2.2.2.1]; rfl
def colsOf (f : BitVec 8 → BitVec 8 → BitVec 8 → BitVec 8 → BitVec 8) : List (BitVec 8) → List (BitVec 8)
  | a :: b :: c :: d :: l => f a b c d :: f b c d a :: f c d a b :: f d a b c :: colsOf f l
  | _ => []
theorem colsOf_congr (f g : BitVec 8 → BitVec 8 → BitVec 8 → BitVec 8 → BitVec 8) (h : ∀ a b c d, f a b c d = g a b c d) (s : List (BitVec 8)) : colsOf f s = colsOf g s := by rw [show f = g from funext fun a => funext fun b => funext fun c => funext fun d => h a b c d]
theorem mixR_cols (s : List (BitVec 8)) (h : s.length = 16) : mixR s = colsOf mq s := by
  match s, h with
  | [s0, s1, s2, s3, s4, s5, s6, s7, s8, s9, s10, s11, s12, s13, s14, s15], _ => rfl
theorem colB_cols (x y z u : BitVec 8) (s : List (BitVec 8)) (h : s.length = 16) : colB [x, y, z, u] s = colsOf (fun a b c d => gmul x a ^^^ gmul y b ^^^ gmul z c ^^^ gmul u d) s := by
  match s, h with
  | [s0, s1, s2, s3, s4, s5, s6, s7, s8, s9, s10, s11, s12, s13, s14, s15], _ =>
    have e1 : ∀ a b c d, (0#8 ^^^ gmul x a ^^^ gmul y b ^^^ gmul z c ^^^ gmul u d : BitVec 8) = gmul x a ^^^ gmul y b ^^^ gmul z c ^^^ gmul u d := fun a b c d => by rw [BitVec.zero_xor]
    have e2 : ∀ a b c d, (0#8 ^^^ gmul u d ^^^ gmul x a ^^^ gmul y b ^^^ gmul z c : BitVec 8) = gmul x a ^^^ gmul y b ^^^ gmul z c ^^^ gmul u d := fun a b c d => by rw [BitVec.zero_xor]; ac_rfl
    have e3 : ∀ a b c d, (0#8 ^^^ gmul z c ^^^ gmul u d ^^^ gmul x a ^^^ gmul y b : BitVec 8) = gmul x a ^^^ gmul y b ^^^ gmul z c ^^^ gmul u d := fun a b c d => by rw [BitVec.zero_xor]; ac_rfl
    have e4 : ∀ a b c d, (0#8 ^^^ gmul y b ^^^ gmul z c ^^^ gmul u d ^^^ gmul x a : BitVec 8) = gmul x a ^^^ gmul y b ^^^ gmul z c ^^^ gmul u d := fun a b c d => by rw [BitVec.zero_xor]; ac_rfl
    have key : ∀ a b c d l, [0#8 ^^^ gmul x a ^^^ gmul y b ^^^ gmul z c ^^^ gmul u d, 0#8 ^^^ gmul u a ^^^ gmul x b ^^^ gmul y c ^^^ gmul z d, 0#8 ^^^ gmul z a ^^^ gmul u b ^^^ gmul x c ^^^ gmul y d, 0#8 ^^^ gmul y a ^^^ gmul z b ^^^ gmul u c ^^^ gmul x d] ++ colsOf (fun a b c d => gmul x a ^^^ gmul y b ^^^ gmul z c ^^^ gmul u d) l = colsOf (fun a b c d => gmul x a ^^^ gmul y b ^^^ gmul z c ^^^ gmul u d) (a :: b :: c :: d :: l) := fun a b c d l => by
      rw [e1, e2, e3, e4]; rfl
    rw [← key, ← key, ← key, ← key]
    rfl
theorem mixR_col (s : List (BitVec 8)) (h : s.length = 16) : mixR s = colB [2#8, 3#8, 1#8, 1#8] s := by
  rw [mixR_cols s h, colB_cols _ _ _ _ s h]
  refine colsOf_congr _ _ (fun a b c d => ?_) s
  rw [mq_eq, (gmuls a).2.1, (gmuls b).2.2.1, (gmuls c).1, (gmuls d).1]
theorem xcan (a b : BitVec 8) : a ^^^ (a ^^^ b) = b := by rw [← BitVec.xor_assoc, BitVec.xor_self, BitVec.zero_xor]
theorem xlc (a b c : BitVec 8) : a ^^^ (b ^^^ c) = b ^^^ (a ^^^ c) := by rw [← BitVec.xor_assoc, BitVec.xor_comm a b, BitVec.xor_assoc]
theorem mq_two (a b c d : BitVec 8) : mq (mq a b c d) (mq b c d a) (mq c d a b) (mq d a b c) = dbl (dbl a) ^^^ a ^^^ dbl (dbl c) := by
  simp only [mq_eq, dbl_xor]
  generalize dbl (dbl a) = a2
  generalize dbl (dbl b) = b2
  generalize dbl (dbl c) = c2
  generalize dbl (dbl d) = d2
  generalize dbl a = a1
  generalize dbl b = b1
  generalize dbl c = c1
  generalize dbl d = d1
  simp only [BitVec.xor_assoc, BitVec.xor_comm, xlc, xcan, BitVec.xor_self, BitVec.xor_zero, BitVec.zero_xor]
theorem mq_three (a b c d : BitVec 8) : (fun a b c d => (fun a b c d => mq (mq a b c d) (mq b c d a) (mq c d a b) (mq d a b c)) (mq a b c d) (mq b c d a) (mq c d a b) (mq d a b c)) a b c d = gmul 14#8 a ^^^ gmul 11#8 b ^^^ gmul 13#8 c ^^^ gmul 9#8 d := by
  rw [(gmuls a).2.2.2.2.1, (gmuls b).2.2.2.2.2.1, (gmuls c).2.2.2.2.2.2.1, (gmuls d).2.2.2.2.2.2.2]
  simp only [mq_two]
  simp only [mq_eq, dbl_xor]
  generalize dbl (dbl (dbl a)) = a3
  generalize dbl (dbl (dbl b)) = b3
  generalize dbl (dbl (dbl c)) = c3
  generalize dbl (dbl (dbl d)) = d3
  generalize dbl (dbl a) = a2
  generalize dbl (dbl b) = b2
  generalize dbl (dbl c) = c2
  generalize dbl (dbl d) = d2
  generalize dbl a = a1
  generalize dbl b = b1
  generalize dbl c = c1
  generalize dbl d = d1
  simp only [BitVec.xor_assoc, BitVec.xor_comm, xlc, xcan, BitVec.xor_self, BitVec.xor_zero, BitVec.zero_xor]
theorem colsOf_mq (f : BitVec 8 → BitVec 8 → BitVec 8 → BitVec 8 → BitVec 8) (s : List (BitVec 8)) (h : s.length = 16) : colsOf f (mixR s) = colsOf (fun a b c d => f (mq a b c d) (mq b c d a) (mq c d a b) (mq d a b c)) s := by
  rw [mixR_cols s h]
  match s, h with
  | [s0, s1, s2, s3, s4, s5, s6, s7, s8, s9, s10, s11, s12, s13, s14, s15], _ => rfl
theorem mixR_length (s : List (BitVec 8)) : (mixR s).length = 16 := mk16_length _
theorem mixR_three (s : List (BitVec 8)) (h : s.length = 16) : mixR (mixR (mixR s)) = colB [14#8, 11#8, 13#8, 9#8] s := by
  rw [mixR_cols _ (mixR_length _), colsOf_mq _ _ (mixR_length _), colsOf_mq _ _ h, colB_cols _ _ _ _ s h]
  exact colsOf_congr _ _ (fun a b c d => mq_three a b c d) s
def rowR (s : List (BitVec 8)) : List (BitVec 8) := mk16 fun i => s.getD (5 * i % 16) 0
theorem rowR_row (s : List (BitVec 8)) (h : s.length = 16) : rowR s = rowsB 1 s := by
  match s, h with
  | [s0, s1, s2, s3, s4, s5, s6, s7, s8, s9, s10, s11, s12, s13, s14, s15], _ => rfl
end Go.Vm
end
section
namespace Go.Vm
open Go.Proofs
set_option maxRecDepth 20000
theorem xorB_take (s k : List (BitVec 8)) (h : s.length = 16) : xorB s (k.take 16) = xorB s k := by
  unfold xorB
  have h1 : (List.zipWith (fun a b => a ^^^ b) s k).length ≤ 16 := by rw [List.length_zipWith]; omega
  rw [← List.take_of_length_le h1, List.take_zipWith, List.take_of_length_le (l := s) (by omega)]
theorem drop_take_one (s : List (BitVec 8)) (a : Nat) (h : a < s.length) : (s.take (a + 1)).drop a = [s.getD a 0] := by
  rw [take_snoc h, List.drop_append_of_le_length (by rw [List.length_take]; omega), List.drop_of_length_le (by rw [List.length_take]; omega), List.nil_append]
theorem mk16_take (f : Nat → BitVec 8) (i : Nat) (h : i < 16) : (mk16 f).take i ++ [f i] = (mk16 f).take (i + 1) := by
  rw [take_snoc (by rw [mk16_length]; exact h), mk16_getD f i h]
set_option maxHeartbeats 2000000 in
theorem REncrypt_spec (t S : List (BitVec 8)) (us : List (List (BitVec 8))) (R N : Nat) (hN : N = 4 * R) (ht : t.length = 16) (hR : 2 ≤ R) (hR2 : R ≤ 20) (hus : us.length = N) (h4 : ∀ w ∈ us, w.length = 4) (K : List (BitVec 8)) (hKe : K = us.flatten) (hK : K.length = 16 * R) (hsub : ∀ (s : List (BitVec 8)), s.length ≤ 1000 → Spec0 Try.prog 88 [.agg [.slice 0 0 256 1, .slice 1 0 N 1], .str s] [some ⟨false, S.map .u8⟩, some ⟨false, us.map .str⟩] (.str (subAll s)) [some ⟨false, S.map .u8⟩, some ⟨false, us.map .str⟩]) : Spec0 Try.prog 60 [.agg [.slice 0 0 256 1, .slice 1 0 N 1], .str t] [some ⟨false, S.map .u8⟩, some ⟨false, us.map .str⟩] (.str (encS t K R (R - 1))) [some ⟨false, S.map .u8⟩, some ⟨false, us.map .str⟩] := by
  have e0 : w64 ((N : Int).tdiv 4) = (R : Int) := by rw [show (4 : Int) = ((4 : Nat) : Int) from rfl, tdiv_nat, w64_of (by omega) (by omega)]; omega
  have e1 : w64 ((R : Int) - 1) = ((R - 1 : Nat) : Int) := by rw [w64_of (by omega) (by omega)]; omega
  have hkey : ∀ i, i < R → Spec0 Try.prog 96 [.agg [.slice 0 0 256 1, .slice 1 0 N 1], .i64 i] [some ⟨false, S.map .u8⟩, some ⟨false, us.map .str⟩] (.str ((K.drop (16 * i)).take 16)) [some ⟨false, S.map .u8⟩, some ⟨false, us.map .str⟩] := fun i hi => by
    have := key_spec us S i N hus (by omega) (by omega) h4
    rwa [← hKe] at this
  have hkl : ∀ i, i < R → ((K.drop (16 * i)).take 16).length = 16 := fun i hi => by rw [List.length_take, List.length_drop]; omega
  have hk0 := hkey 0 (by omega)
  have hx0 := RXor_spec t ((K.drop (16 * 0)).take 16) (by rw [hkl 0 (by omega)]; omega) (by omega)
  rw [xorB_take _ _ ht] at hx0
  rw [Nat.mul_zero, List.drop_zero] at hx0 hk0
  have hen0 : xorB t K = encS t K R 0 := rfl
  refine spec0_of_vc (by kernel_rfl) (fn := Try.f60) Try.func60 rfl (by show 2 ≤ 101; decide) (go_start ?_)
  simp only [go_sem, ↓reduceIte, Nat.reduceEqDiff, Nat.reduceLT, Nat.reduceLeDiff, Nat.reduceAdd, Nat.reduceSub, Nat.reduceMul, Nat.reduceMod, Nat.reduceDiv, Int.reduceLE, Int.reduceLT, Int.reduceToNat, Int.reduceAdd, Int.reduceSub, Int.reduceMul, Int.reduceEq, Int.reduceNeg, BitVec.reduceOfInt, BitVec.reduceToNat, BitVec.reduceEq, BitVec.reduceNe, BitVec.reduceLT, reduceCtorEq, List.forall_mem_nil, Try.ntmps60, Try.results60, e0, e1]
  refine goCall_mem [0, 1] (hk0) (by kernel_rfl) (by simp [-List.map_map, -List.map_set, vtuple_zero, rens_append, lows_append, sgOf_zero, sgOf_succ, rens, V.ren, lows, V.low, rens_u8, rens_u32, rens_u64, rens_i64, rens_str, lows_u8, lows_u32, lows_u64, lows_i64, lows_str, allSome, allRw, blksOk_nil, blksOk_none, blksOk_some, getH_zero, getH_succ, getH_nil]) rfl (by simp [-List.map_map, -List.map_set, vtuple_zero, rens_append, lows_append, sgOf_zero, sgOf_succ, rens, V.ren, lows, V.low, rens_u8, rens_u32, rens_u64, rens_i64, rens_str, lows_u8, lows_u32, lows_u64, lows_i64, lows_str, allSome, allRw, blksOk_nil, blksOk_none, blksOk_some, getH_zero, getH_succ, getH_nil]) (by decide) (by simp [-List.map_map, -List.map_set, vtuple_zero, rens_append, lows_append, sgOf_zero, sgOf_succ, rens, V.ren, lows, V.low, rens_u8, rens_u32, rens_u64, rens_i64, rens_str, lows_u8, lows_u32, lows_u64, lows_i64, lows_str, allSome, allRw, blksOk_nil, blksOk_none, blksOk_some, getH_zero, getH_succ, getH_nil]) (by simp [-List.map_map, -List.map_set, vtuple_zero, rens_append, lows_append, sgOf_zero, sgOf_succ, rens, V.ren, lows, V.low, rens_u8, rens_u32, rens_u64, rens_i64, rens_str, lows_u8, lows_u32, lows_u64, lows_i64, lows_str, allSome, allRw, blksOk_nil, blksOk_none, blksOk_some, getH_zero, getH_succ, getH_nil]) (by simp [-List.map_map, -List.map_set, vtuple_zero, rens_append, lows_append, sgOf_zero, sgOf_succ, rens, V.ren, lows, V.low, rens_u8, rens_u32, rens_u64, rens_i64, rens_str, lows_u8, lows_u32, lows_u64, lows_i64, lows_str, allSome, allRw, blksOk_nil, blksOk_none, blksOk_some, getH_zero, getH_succ, getH_nil]) (by simp [-List.map_map, -List.map_set, vtuple_zero, rens_append, lows_append, sgOf_zero, sgOf_succ, rens, V.ren, lows, V.low, rens_u8, rens_u32, rens_u64, rens_i64, rens_str, lows_u8, lows_u32, lows_u64, lows_i64, lows_str, allSome, allRw, blksOk_nil, blksOk_none, blksOk_some, getH_zero, getH_succ, getH_nil]) (by simp) ?_
  simp only [go_sem, ↓reduceIte, Nat.reduceEqDiff, Nat.reduceLT, Nat.reduceLeDiff, Nat.reduceAdd, Nat.reduceSub, Nat.reduceMul, Nat.reduceMod, Nat.reduceDiv, Int.reduceLE, Int.reduceLT, Int.reduceToNat, Int.reduceAdd, Int.reduceSub, Int.reduceMul, Int.reduceEq, Int.reduceNeg, BitVec.reduceOfInt, BitVec.reduceToNat, BitVec.reduceEq, BitVec.reduceNe, BitVec.reduceLT, reduceCtorEq, List.forall_mem_nil]
  refine goCall_pure0 (hx0) ?_
  simp only [go_sem, ↓reduceIte, Nat.reduceEqDiff, Nat.reduceLT, Nat.reduceLeDiff, Nat.reduceAdd, Nat.reduceSub, Nat.reduceMul, Nat.reduceMod, Nat.reduceDiv, Int.reduceLE, Int.reduceLT, Int.reduceToNat, Int.reduceAdd, Int.reduceSub, Int.reduceMul, Int.reduceEq, Int.reduceNeg, BitVec.reduceOfInt, BitVec.reduceToNat, BitVec.reduceEq, BitVec.reduceNe, BitVec.reduceLT, reduceCtorEq, List.forall_mem_nil, hen0]
  refine go_loop (fun ji st => ∃ i : Nat, i + ji = R - 1 ∧ st = ⟨[(1, .str (encS t K R i)), (2, .ptr 2 0), (5, .i64 (R - 1 : Nat)), (6, .i64 (i + 1 : Nat))], [some ⟨false, S.map .u8⟩, some ⟨false, us.map .str⟩, some ⟨false, [.slice 0 0 256 1, .slice 1 0 N 1]⟩]⟩) ?_ ?_
  · exact start_mk (R - 1) ⟨[(1, .str (encS t K R (0 : Nat))), (2, .ptr 2 0), (5, .i64 (R - 1 : Nat)), (6, .i64 ((0 : Nat) + 1 : Nat))], [some ⟨false, S.map .u8⟩, some ⟨false, us.map .str⟩, some ⟨false, [.slice 0 0 256 1, .slice 1 0 N 1]⟩]⟩ (by simp [St.get, lookS, -List.map_set, -List.map_map, List.length_nil]) rfl (fun _ _ h => h) ⟨0, by omega, rfl⟩
  rintro ji st ⟨i, hi, rfl⟩ _
  simp only [go_sem, ↓reduceIte, Nat.reduceEqDiff, Nat.reduceLT, Nat.reduceLeDiff, Nat.reduceAdd, Nat.reduceSub, Nat.reduceMul, Nat.reduceMod, Nat.reduceDiv, Int.reduceLE, Int.reduceLT, Int.reduceToNat, Int.reduceAdd, Int.reduceSub, Int.reduceMul, Int.reduceEq, Int.reduceNeg, BitVec.reduceOfInt, BitVec.reduceToNat, BitVec.reduceEq, BitVec.reduceNe, BitVec.reduceLT, reduceCtorEq, List.forall_mem_nil]
  have hel := encS_length t K R ht hK i (by omega)
  by_cases hl : i < R - 1
  · have hl' : ((i + 1 : Nat) : Int) ≤ ((R - 1 : Nat) : Int) := by omega
    have hsu := hsub (encS t K R i) (by omega)
    have hsl := subAll_length (encS t K R i)
    have hes : encS t K R (i + 1) = xorB (if i + 2 < R then mixR (rowR (subAll (encS t K R i))) else rowR (subAll (encS t K R i))) (K.drop (16 * (i + 1))) := by
      rw [rowR_row _ (by omega), mixR_col _ (rowsB_length _ _)]; rfl
    rw [hel] at hsl
    generalize hs1 : subAll (encS t K R i) = s1 at *
    simp only [go_sem, ↓reduceIte, Nat.reduceEqDiff, Nat.reduceLT, Nat.reduceLeDiff, Nat.reduceAdd, Nat.reduceSub, Nat.reduceMul, Nat.reduceMod, Nat.reduceDiv, Int.reduceLE, Int.reduceLT, Int.reduceToNat, Int.reduceAdd, Int.reduceSub, Int.reduceMul, Int.reduceEq, Int.reduceNeg, BitVec.reduceOfInt, BitVec.reduceToNat, BitVec.reduceEq, BitVec.reduceNe, BitVec.reduceLT, reduceCtorEq, List.forall_mem_nil, hl']
    refine goCall_mem [0, 1] (hsu) (by kernel_rfl) (by simp [-List.map_map, -List.map_set, vtuple_zero, rens_append, lows_append, sgOf_zero, sgOf_succ, rens, V.ren, lows, V.low, rens_u8, rens_u32, rens_u64, rens_i64, rens_str, lows_u8, lows_u32, lows_u64, lows_i64, lows_str, allSome, allRw, blksOk_nil, blksOk_none, blksOk_some, getH_zero, getH_succ, getH_nil]) rfl (by simp [-List.map_map, -List.map_set, vtuple_zero, rens_append, lows_append, sgOf_zero, sgOf_succ, rens, V.ren, lows, V.low, rens_u8, rens_u32, rens_u64, rens_i64, rens_str, lows_u8, lows_u32, lows_u64, lows_i64, lows_str, allSome, allRw, blksOk_nil, blksOk_none, blksOk_some, getH_zero, getH_succ, getH_nil]) (by decide) (by simp [-List.map_map, -List.map_set, vtuple_zero, rens_append, lows_append, sgOf_zero, sgOf_succ, rens, V.ren, lows, V.low, rens_u8, rens_u32, rens_u64, rens_i64, rens_str, lows_u8, lows_u32, lows_u64, lows_i64, lows_str, allSome, allRw, blksOk_nil, blksOk_none, blksOk_some, getH_zero, getH_succ, getH_nil]) (by simp [-List.map_map, -List.map_set, vtuple_zero, rens_append, lows_append, sgOf_zero, sgOf_succ, rens, V.ren, lows, V.low, rens_u8, rens_u32, rens_u64, rens_i64, rens_str, lows_u8, lows_u32, lows_u64, lows_i64, lows_str, allSome, allRw, blksOk_nil, blksOk_none, blksOk_some, getH_zero, getH_succ, getH_nil]) (by simp [-List.map_map, -List.map_set, vtuple_zero, rens_append, lows_append, sgOf_zero, sgOf_succ, rens, V.ren, lows, V.low, rens_u8, rens_u32, rens_u64, rens_i64, rens_str, lows_u8, lows_u32, lows_u64, lows_i64, lows_str, allSome, allRw, blksOk_nil, blksOk_none, blksOk_some, getH_zero, getH_succ, getH_nil]) (by simp [-List.map_map, -List.map_set, vtuple_zero, rens_append, lows_append, sgOf_zero, sgOf_succ, rens, V.ren, lows, V.low, rens_u8, rens_u32, rens_u64, rens_i64, rens_str, lows_u8, lows_u32, lows_u64, lows_i64, lows_str, allSome, allRw, blksOk_nil, blksOk_none, blksOk_some, getH_zero, getH_succ, getH_nil]) (by simp) ?_
    simp only [go_sem, ↓reduceIte, Nat.reduceEqDiff, Nat.reduceLT, Nat.reduceLeDiff, Nat.reduceAdd, Nat.reduceSub, Nat.reduceMul, Nat.reduceMod, Nat.reduceDiv, Int.reduceLE, Int.reduceLT, Int.reduceToNat, Int.reduceAdd, Int.reduceSub, Int.reduceMul, Int.reduceEq, Int.reduceNeg, BitVec.reduceOfInt, BitVec.reduceToNat, BitVec.reduceEq, BitVec.reduceNe, BitVec.reduceLT, reduceCtorEq, List.forall_mem_nil]
    refine go_loop (fun jp st => ∃ p : Nat, p + jp = 16 ∧ st = ⟨[(2, .ptr 2 0), (5, .i64 (R - 1 : Nat)), (6, .i64 (i + 1 : Nat)), (7, .str s1), (8, .str ((rowR s1).take p)), (31, .i64 p)], [some ⟨false, S.map .u8⟩, some ⟨false, us.map .str⟩, some ⟨false, [.slice 0 0 256 1, .slice 1 0 N 1]⟩]⟩) ?_ ?_
    · exact start_mk (16) ⟨[(2, .ptr 2 0), (5, .i64 (R - 1 : Nat)), (6, .i64 (i + 1 : Nat)), (7, .str s1), (8, .str ((rowR s1).take (0 : Nat))), (31, .i64 (0 : Nat))], [some ⟨false, S.map .u8⟩, some ⟨false, us.map .str⟩, some ⟨false, [.slice 0 0 256 1, .slice 1 0 N 1]⟩]⟩ (by simp [St.get, lookS, -List.map_set, -List.map_map, List.take_zero]) rfl (fun _ _ h => h) ⟨0, by omega, rfl⟩
    rintro jp st ⟨p, hp, rfl⟩ _
    simp only [go_sem, ↓reduceIte, Nat.reduceEqDiff, Nat.reduceLT, Nat.reduceLeDiff, Nat.reduceAdd, Nat.reduceSub, Nat.reduceMul, Nat.reduceMod, Nat.reduceDiv, Int.reduceLE, Int.reduceLT, Int.reduceToNat, Int.reduceAdd, Int.reduceSub, Int.reduceMul, Int.reduceEq, Int.reduceNeg, BitVec.reduceOfInt, BitVec.reduceToNat, BitVec.reduceEq, BitVec.reduceNe, BitVec.reduceLT, reduceCtorEq, List.forall_mem_nil]
    by_cases hp16 : p < 16
    · have hp' : (p : Int) < 16 := by omega
      have m1 : w64 (5 * (p : Int)) = ((5 * p : Nat) : Int) := by rw [w64_of (by omega) (by omega)]; omega
      have m2 : ((5 * p : Nat) : Int).tmod 16 = ((5 * p % 16 : Nat) : Int) := rfl
      have m3 : w64 (((5 * p % 16 : Nat) : Int) + 1) = ((5 * p % 16 + 1 : Nat) : Int) := by rw [w64_of (by omega) (by omega)]; omega
      have m4 : (0 : Int) ≤ ((5 * p % 16 : Nat) : Int) := by omega
      have m5 : ((5 * p % 16 : Nat) : Int) ≤ ((5 * p % 16 + 1 : Nat) : Int) := by omega
      have m6 : ((5 * p % 16 + 1 : Nat) : Int) ≤ 16 := by omega
      have hd1 := drop_take_one s1 (5 * p % 16) (by omega)
      have hn : (rowR s1).take p ++ [s1.getD (5 * p % 16) 0] = (rowR s1).take (p + 1) := mk16_take _ p hp16
      simp only [go_sem, ↓reduceIte, Nat.reduceEqDiff, Nat.reduceLT, Nat.reduceLeDiff, Nat.reduceAdd, Nat.reduceSub, Nat.reduceMul, Nat.reduceMod, Nat.reduceDiv, Int.reduceLE, Int.reduceLT, Int.reduceToNat, Int.reduceAdd, Int.reduceSub, Int.reduceMul, Int.reduceEq, Int.reduceNeg, BitVec.reduceOfInt, BitVec.reduceToNat, BitVec.reduceEq, BitVec.reduceNe, BitVec.reduceLT, reduceCtorEq, List.forall_mem_nil, hp', m1, m2, m3, m4, m5, m6, hsl, hd1, hn]
      refine ⟨by omega, ?_⟩
      refine again_mk (jp - 1) ⟨[(2, .ptr 2 0), (5, .i64 (R - 1 : Nat)), (6, .i64 (i + 1 : Nat)), (7, .str s1), (8, .str ((rowR s1).take (p + 1 : Nat))), (31, .i64 (p + 1 : Nat))], [some ⟨false, S.map .u8⟩, some ⟨false, us.map .str⟩, some ⟨false, [.slice 0 0 256 1, .slice 1 0 N 1]⟩]⟩ (by omega) ?_ rfl (fun _ _ h => h) ⟨p + 1, by omega, rfl⟩
      have hw1 : w64 ((p : Int) + 1) = ((p + 1 : Nat) : Int) := by rw [w64_of (by omega) (by omega)]; omega
      simp [St.get, lookS, hw1, -List.map_set, -List.map_map, List.length_nil]
    · obtain rfl : p = 16 := by omega
      have hp' : ¬ ((16 : Nat) : Int) < 16 := by omega
      have hrl : (rowR s1).length = 16 := mk16_length _
      have hrt : (rowR s1).take 16 = rowR s1 := List.take_of_length_le (by omega)
      generalize hrs : rowR s1 = rs at *
      simp only [go_sem, ↓reduceIte, Nat.reduceEqDiff, Nat.reduceLT, Nat.reduceLeDiff, Nat.reduceAdd, Nat.reduceSub, Nat.reduceMul, Nat.reduceMod, Nat.reduceDiv, Int.reduceLE, Int.reduceLT, Int.reduceToNat, Int.reduceAdd, Int.reduceSub, Int.reduceMul, Int.reduceEq, Int.reduceNeg, BitVec.reduceOfInt, BitVec.reduceToNat, BitVec.reduceEq, BitVec.reduceNe, BitVec.reduceLT, reduceCtorEq, List.forall_mem_nil, hp', hrt]
      obtain ⟨bs, hbs⟩ : ∃ bs, bs = if i + 2 < R then mixR rs else rs := ⟨_, rfl⟩
      have hbl : bs.length = 16 := by
        rw [hbs]; split
        · exact mixR_length _
        · exact hrl
      rw [← hbs] at hes
      have hky := hkey (i + 1) (by omega)
      have hx := RXor_spec bs ((K.drop (16 * (i + 1))).take 16) (by rw [hkl (i + 1) (by omega)]; omega) (by omega)
      rw [xorB_take _ _ hbl, ← hes] at hx
      refine go_loop (fun jc st => ∃ c : Nat, c + jc = 4 ∧ st = ⟨[(1, .str (bs.take (4 * c))), (2, .ptr 2 0), (5, .i64 (R - 1 : Nat)), (6, .i64 (i + 1 : Nat)), (8, .str rs), (46, .i64 c)], [some ⟨false, S.map .u8⟩, some ⟨false, us.map .str⟩, some ⟨false, [.slice 0 0 256 1, .slice 1 0 N 1]⟩]⟩) ?_ ?_
      · exact start_mk (4) ⟨[(1, .str (bs.take (4 * (0 : Nat)))), (2, .ptr 2 0), (5, .i64 (R - 1 : Nat)), (6, .i64 (i + 1 : Nat)), (8, .str rs), (46, .i64 (0 : Nat))], [some ⟨false, S.map .u8⟩, some ⟨false, us.map .str⟩, some ⟨false, [.slice 0 0 256 1, .slice 1 0 N 1]⟩]⟩ (by simp [St.get, lookS, -List.map_set, -List.map_map, List.take_zero]) rfl (fun _ _ h => h) ⟨0, by omega, rfl⟩
      rintro jc st ⟨c, hc, rfl⟩ _
      simp only [go_sem, ↓reduceIte, Nat.reduceEqDiff, Nat.reduceLT, Nat.reduceLeDiff, Nat.reduceAdd, Nat.reduceSub, Nat.reduceMul, Nat.reduceMod, Nat.reduceDiv, Int.reduceLE, Int.reduceLT, Int.reduceToNat, Int.reduceAdd, Int.reduceSub, Int.reduceMul, Int.reduceEq, Int.reduceNeg, BitVec.reduceOfInt, BitVec.reduceToNat, BitVec.reduceEq, BitVec.reduceNe, BitVec.reduceLT, reduceCtorEq, List.forall_mem_nil]
      by_cases hc4 : c < 4
      · have hc' : (c : Int) < 4 := by omega
        have n1 : w64 (4 * (c : Int)) = ((4 * c : Nat) : Int) := by rw [w64_of (by omega) (by omega)]; omega
        have n2 : w64 (((4 * c : Nat) : Int) + 4) = ((4 * c + 4 : Nat) : Int) := by rw [w64_of (by omega) (by omega)]; omega
        have n4 : (0 : Int) ≤ ((4 * c : Nat) : Int) := by omega
        have n5 : ((4 * c : Nat) : Int) ≤ ((4 * c + 4 : Nat) : Int) := by omega
        have n6 : ((4 * c + 4 : Nat) : Int) ≤ 16 := by omega
        have hw8 : w64 ((c : Int) + 1) = ((c + 1 : Nat) : Int) := by rw [w64_of (by omega) (by omega)]; omega
        by_cases hlast : i + 2 < R
        · have hl2 : (((i + 1 : Nat) : Int) = ((R - 1 : Nat) : Int)) = False := eq_false (by omega)
          rw [if_pos hlast] at hbs
          subst hbs
          obtain ⟨w, hw⟩ : ∃ w, w = (rs.take (4 * c + 4)).drop (4 * c) := ⟨_, rfl⟩
          have hwl : w.length = 4 := by rw [hw, List.length_drop, List.length_take]; omega
          simp only [go_sem, ↓reduceIte, Nat.reduceEqDiff, Nat.reduceLT, Nat.reduceLeDiff, Nat.reduceAdd, Nat.reduceSub, Nat.reduceMul, Nat.reduceMod, Nat.reduceDiv, Int.reduceLE, Int.reduceLT, Int.reduceToNat, Int.reduceAdd, Int.reduceSub, Int.reduceMul, Int.reduceEq, Int.reduceNeg, BitVec.reduceOfInt, BitVec.reduceToNat, BitVec.reduceEq, BitVec.reduceNe, BitVec.reduceLT, reduceCtorEq, List.forall_mem_nil, hc', n1, n2, n4, n5, n6, hrl, hl2, ← hw]
          refine go_loop (fun jq st => ∃ q : Nat, q + jq = 4 ∧ st = ⟨[(1, .str ((mixR rs).take (4 * c + q))), (2, .ptr 2 0), (5, .i64 (R - 1 : Nat)), (6, .i64 (i + 1 : Nat)), (8, .str rs), (11, .str w), (46, .i64 c), (62, .i64 q)], [some ⟨false, S.map .u8⟩, some ⟨false, us.map .str⟩, some ⟨false, [.slice 0 0 256 1, .slice 1 0 N 1]⟩]⟩) ?_ ?_
          · exact start_mk (4) ⟨[(1, .str ((mixR rs).take (4 * c + (0 : Nat)))), (2, .ptr 2 0), (5, .i64 (R - 1 : Nat)), (6, .i64 (i + 1 : Nat)), (8, .str rs), (11, .str w), (46, .i64 c), (62, .i64 (0 : Nat))], [some ⟨false, S.map .u8⟩, some ⟨false, us.map .str⟩, some ⟨false, [.slice 0 0 256 1, .slice 1 0 N 1]⟩]⟩ (by simp [St.get, lookS, -List.map_set, -List.map_map, Nat.add_zero]) rfl (fun _ _ h => h) ⟨0, by omega, rfl⟩
          rintro jq st ⟨q, hq, rfl⟩ _
          simp only [go_sem, ↓reduceIte, Nat.reduceEqDiff, Nat.reduceLT, Nat.reduceLeDiff, Nat.reduceAdd, Nat.reduceSub, Nat.reduceMul, Nat.reduceMod, Nat.reduceDiv, Int.reduceLE, Int.reduceLT, Int.reduceToNat, Int.reduceAdd, Int.reduceSub, Int.reduceMul, Int.reduceEq, Int.reduceNeg, BitVec.reduceOfInt, BitVec.reduceToNat, BitVec.reduceEq, BitVec.reduceNe, BitVec.reduceLT, reduceCtorEq, List.forall_mem_nil]
          by_cases hq4 : q < 4
          · have hq' : (q : Int) < 4 := by omega
            have o0 : (0 : Int) ≤ (q : Int) := by omega
            have o1 : w64 ((q : Int) + 1) = ((q + 1 : Nat) : Int) := by rw [w64_of (by omega) (by omega)]; omega
            have o2 : w64 ((q : Int) + 2) = ((q + 2 : Nat) : Int) := by rw [w64_of (by omega) (by omega)]; omega
            have o3 : w64 ((q : Int) + 3) = ((q + 3 : Nat) : Int) := by rw [w64_of (by omega) (by omega)]; omega
            have r3 : ∀ k : Nat, ((k : Nat) : Int).tmod 4 = ((k % 4 : Nat) : Int) := fun k => rfl
            have u1 : ∀ k : Nat, (((k % 4 : Nat) : Int) < 4) = True := fun k => eq_true (by omega)
            have u2 : ∀ k : Nat, ((0 : Int) ≤ (k : Int)) = True := fun k => eq_true (by omega)
            have hv : mixq w q = rmul (w.getD q 0) 2#8 ^^^ rmul (w.getD ((q + 1) % 4) 0) 3#8 ^^^ w.getD ((q + 2) % 4) 0 ^^^ w.getD ((q + 3) % 4) 0 := by unfold mixq; rw [gmul_rmul, gmul_rmul, Nat.mod_eq_of_lt hq4]
            have hn : (mixR rs).take (4 * c + q) ++ [mixq w q] = (mixR rs).take (4 * c + (q + 1)) := by
              have := mk16_take (fun j => mixq ((rs.take (4 * (j / 4) + 4)).drop (4 * (j / 4))) (j % 4)) (4 * c + q) (by omega)
              rw [show (4 * c + q) / 4 = c by omega, show (4 * c + q) % 4 = q by omega, ← hw] at this
              exact this
            have hc := chr_spec ((mixq w q).toNat : Int)
            rw [chr_byte] at hc
            simp only [go_sem, ↓reduceIte, Nat.reduceEqDiff, Nat.reduceLT, Nat.reduceLeDiff, Nat.reduceAdd, Nat.reduceSub, Nat.reduceMul, Nat.reduceMod, Nat.reduceDiv, Int.reduceLE, Int.reduceLT, Int.reduceToNat, Int.reduceAdd, Int.reduceSub, Int.reduceMul, Int.reduceEq, Int.reduceNeg, BitVec.reduceOfInt, BitVec.reduceToNat, BitVec.reduceEq, BitVec.reduceNe, BitVec.reduceLT, reduceCtorEq, List.forall_mem_nil, hq', o0, o1, o2, o3, r3, u1, u2, hwl]
            refine goCallD_pure0 (RMul_spec _ _) ?_
            simp only [go_sem, ↓reduceIte, Nat.reduceEqDiff, Nat.reduceLT, Nat.reduceLeDiff, Nat.reduceAdd, Nat.reduceSub, Nat.reduceMul, Nat.reduceMod, Nat.reduceDiv, Int.reduceLE, Int.reduceLT, Int.reduceToNat, Int.reduceAdd, Int.reduceSub, Int.reduceMul, Int.reduceEq, Int.reduceNeg, BitVec.reduceOfInt, BitVec.reduceToNat, BitVec.reduceEq, BitVec.reduceNe, BitVec.reduceLT, reduceCtorEq, List.forall_mem_nil, r3, u1, u2, hwl, o0, o1, o2, o3]
            refine goCallD_pure0 (RMul_spec _ _) ?_
            simp only [go_sem, ↓reduceIte, Nat.reduceEqDiff, Nat.reduceLT, Nat.reduceLeDiff, Nat.reduceAdd, Nat.reduceSub, Nat.reduceMul, Nat.reduceMod, Nat.reduceDiv, Int.reduceLE, Int.reduceLT, Int.reduceToNat, Int.reduceAdd, Int.reduceSub, Int.reduceMul, Int.reduceEq, Int.reduceNeg, BitVec.reduceOfInt, BitVec.reduceToNat, BitVec.reduceEq, BitVec.reduceNe, BitVec.reduceLT, reduceCtorEq, List.forall_mem_nil, r3, u1, u2, hwl, o0, o1, o2, o3, ← hv]
            refine ⟨by kernel_rfl, ?_⟩
            refine goCall_pure0 (hc) ?_
            simp only [go_sem, ↓reduceIte, Nat.reduceEqDiff, Nat.reduceLT, Nat.reduceLeDiff, Nat.reduceAdd, Nat.reduceSub, Nat.reduceMul, Nat.reduceMod, Nat.reduceDiv, Int.reduceLE, Int.reduceLT, Int.reduceToNat, Int.reduceAdd, Int.reduceSub, Int.reduceMul, Int.reduceEq, Int.reduceNeg, BitVec.reduceOfInt, BitVec.reduceToNat, BitVec.reduceEq, BitVec.reduceNe, BitVec.reduceLT, reduceCtorEq, List.forall_mem_nil, hn]
            refine ⟨by omega, ?_⟩
            refine again_mk (jq - 1) ⟨[(1, .str ((mixR rs).take (4 * c + (q + 1 : Nat)))), (2, .ptr 2 0), (5, .i64 (R - 1 : Nat)), (6, .i64 (i + 1 : Nat)), (8, .str rs), (11, .str w), (46, .i64 c), (62, .i64 (q + 1 : Nat))], [some ⟨false, S.map .u8⟩, some ⟨false, us.map .str⟩, some ⟨false, [.slice 0 0 256 1, .slice 1 0 N 1]⟩]⟩ (by omega) ?_ rfl (fun _ _ h => h) ⟨q + 1, by omega, rfl⟩
            have hw1 : w64 ((q : Int) + 1) = ((q + 1 : Nat) : Int) := by rw [w64_of (by omega) (by omega)]; omega
            simp [St.get, lookS, hw1, -List.map_set, -List.map_map, List.length_nil]
          · obtain rfl : q = 4 := by omega
            have hq' : ¬ ((4 : Nat) : Int) < 4 := by omega
            simp only [go_sem, ↓reduceIte, Nat.reduceEqDiff, Nat.reduceLT, Nat.reduceLeDiff, Nat.reduceAdd, Nat.reduceSub, Nat.reduceMul, Nat.reduceMod, Nat.reduceDiv, Int.reduceLE, Int.reduceLT, Int.reduceToNat, Int.reduceAdd, Int.reduceSub, Int.reduceMul, Int.reduceEq, Int.reduceNeg, BitVec.reduceOfInt, BitVec.reduceToNat, BitVec.reduceEq, BitVec.reduceNe, BitVec.reduceLT, reduceCtorEq, List.forall_mem_nil, hq']
            refine again_mk (jc - 1) ⟨[(1, .str ((mixR rs).take (4 * (c + 1 : Nat)))), (2, .ptr 2 0), (5, .i64 (R - 1 : Nat)), (6, .i64 (i + 1 : Nat)), (8, .str rs), (46, .i64 (c + 1 : Nat))], [some ⟨false, S.map .u8⟩, some ⟨false, us.map .str⟩, some ⟨false, [.slice 0 0 256 1, .slice 1 0 N 1]⟩]⟩ (by omega) ?_ rfl (fun _ _ h => h) ⟨c + 1, by omega, rfl⟩
            have hw1 : w64 ((c : Int) + 1) = ((c + 1 : Nat) : Int) := by rw [w64_of (by omega) (by omega)]; omega
            simp [St.get, lookS, hw1, -List.map_set, -List.map_map, Nat.mul_add]
        · have hl2 : (((i + 1 : Nat) : Int) = ((R - 1 : Nat) : Int)) = True := eq_true (by omega)
          rw [if_neg hlast] at hbs
          subst hbs
          have hap : bs.take (4 * c) ++ (bs.take (4 * c + 4)).drop (4 * c) = bs.take (4 * (c + 1)) := by
            rw [List.drop_take, show 4 * c + 4 - 4 * c = 4 by omega, ← List.take_add]; rfl
          simp only [go_sem, ↓reduceIte, Nat.reduceEqDiff, Nat.reduceLT, Nat.reduceLeDiff, Nat.reduceAdd, Nat.reduceSub, Nat.reduceMul, Nat.reduceMod, Nat.reduceDiv, Int.reduceLE, Int.reduceLT, Int.reduceToNat, Int.reduceAdd, Int.reduceSub, Int.reduceMul, Int.reduceEq, Int.reduceNeg, BitVec.reduceOfInt, BitVec.reduceToNat, BitVec.reduceEq, BitVec.reduceNe, BitVec.reduceLT, reduceCtorEq, List.forall_mem_nil, hc', n1, n2, n4, n5, n6, hrl, hl2, hap]
          refine ⟨by omega, ?_⟩
          refine again_mk (jc - 1) ⟨[(1, .str (bs.take (4 * (c + 1 : Nat)))), (2, .ptr 2 0), (5, .i64 (R - 1 : Nat)), (6, .i64 (i + 1 : Nat)), (8, .str bs), (46, .i64 (c + 1 : Nat))], [some ⟨false, S.map .u8⟩, some ⟨false, us.map .str⟩, some ⟨false, [.slice 0 0 256 1, .slice 1 0 N 1]⟩]⟩ (by omega) ?_ rfl (fun _ _ h => h) ⟨c + 1, by omega, rfl⟩
          have hw1 : w64 ((c : Int) + 1) = ((c + 1 : Nat) : Int) := by rw [w64_of (by omega) (by omega)]; omega
          simp [St.get, lookS, hw1, -List.map_set, -List.map_map, List.length_nil]
      · obtain rfl : c = 4 := by omega
        have hc' : ¬ ((4 : Nat) : Int) < 4 := by omega
        have hbt : bs.take (4 * 4) = bs := List.take_of_length_le (by omega)
        simp only [go_sem, ↓reduceIte, Nat.reduceEqDiff, Nat.reduceLT, Nat.reduceLeDiff, Nat.reduceAdd, Nat.reduceSub, Nat.reduceMul, Nat.reduceMod, Nat.reduceDiv, Int.reduceLE, Int.reduceLT, Int.reduceToNat, Int.reduceAdd, Int.reduceSub, Int.reduceMul, Int.reduceEq, Int.reduceNeg, BitVec.reduceOfInt, BitVec.reduceToNat, BitVec.reduceEq, BitVec.reduceNe, BitVec.reduceLT, reduceCtorEq, List.forall_mem_nil, hc', hbt]
        refine goCall_mem [0, 1] (hky) (by kernel_rfl) (by simp [-List.map_map, -List.map_set, vtuple_zero, rens_append, lows_append, sgOf_zero, sgOf_succ, rens, V.ren, lows, V.low, rens_u8, rens_u32, rens_u64, rens_i64, rens_str, lows_u8, lows_u32, lows_u64, lows_i64, lows_str, allSome, allRw, blksOk_nil, blksOk_none, blksOk_some, getH_zero, getH_succ, getH_nil]) rfl (by simp [-List.map_map, -List.map_set, vtuple_zero, rens_append, lows_append, sgOf_zero, sgOf_succ, rens, V.ren, lows, V.low, rens_u8, rens_u32, rens_u64, rens_i64, rens_str, lows_u8, lows_u32, lows_u64, lows_i64, lows_str, allSome, allRw, blksOk_nil, blksOk_none, blksOk_some, getH_zero, getH_succ, getH_nil]) (by decide) (by simp [-List.map_map, -List.map_set, vtuple_zero, rens_append, lows_append, sgOf_zero, sgOf_succ, rens, V.ren, lows, V.low, rens_u8, rens_u32, rens_u64, rens_i64, rens_str, lows_u8, lows_u32, lows_u64, lows_i64, lows_str, allSome, allRw, blksOk_nil, blksOk_none, blksOk_some, getH_zero, getH_succ, getH_nil]) (by simp [-List.map_map, -List.map_set, vtuple_zero, rens_append, lows_append, sgOf_zero, sgOf_succ, rens, V.ren, lows, V.low, rens_u8, rens_u32, rens_u64, rens_i64, rens_str, lows_u8, lows_u32, lows_u64, lows_i64, lows_str, allSome, allRw, blksOk_nil, blksOk_none, blksOk_some, getH_zero, getH_succ, getH_nil]) (by simp [-List.map_map, -List.map_set, vtuple_zero, rens_append, lows_append, sgOf_zero, sgOf_succ, rens, V.ren, lows, V.low, rens_u8, rens_u32, rens_u64, rens_i64, rens_str, lows_u8, lows_u32, lows_u64, lows_i64, lows_str, allSome, allRw, blksOk_nil, blksOk_none, blksOk_some, getH_zero, getH_succ, getH_nil]) (by simp [-List.map_map, -List.map_set, vtuple_zero, rens_append, lows_append, sgOf_zero, sgOf_succ, rens, V.ren, lows, V.low, rens_u8, rens_u32, rens_u64, rens_i64, rens_str, lows_u8, lows_u32, lows_u64, lows_i64, lows_str, allSome, allRw, blksOk_nil, blksOk_none, blksOk_some, getH_zero, getH_succ, getH_nil]) (by simp) ?_
        simp only [go_sem, ↓reduceIte, Nat.reduceEqDiff, Nat.reduceLT, Nat.reduceLeDiff, Nat.reduceAdd, Nat.reduceSub, Nat.reduceMul, Nat.reduceMod, Nat.reduceDiv, Int.reduceLE, Int.reduceLT, Int.reduceToNat, Int.reduceAdd, Int.reduceSub, Int.reduceMul, Int.reduceEq, Int.reduceNeg, BitVec.reduceOfInt, BitVec.reduceToNat, BitVec.reduceEq, BitVec.reduceNe, BitVec.reduceLT, reduceCtorEq, List.forall_mem_nil]
        refine goCall_pure0 (hx) ?_
        simp only [go_sem, ↓reduceIte, Nat.reduceEqDiff, Nat.reduceLT, Nat.reduceLeDiff, Nat.reduceAdd, Nat.reduceSub, Nat.reduceMul, Nat.reduceMod, Nat.reduceDiv, Int.reduceLE, Int.reduceLT, Int.reduceToNat, Int.reduceAdd, Int.reduceSub, Int.reduceMul, Int.reduceEq, Int.reduceNeg, BitVec.reduceOfInt, BitVec.reduceToNat, BitVec.reduceEq, BitVec.reduceNe, BitVec.reduceLT, reduceCtorEq, List.forall_mem_nil]
        have hw6 : w64 (((i + 1 : Nat) : Int) + 1) = ((i + 1 + 1 : Nat) : Int) := by rw [w64_of (by omega) (by omega)]; omega
        refine again_ren (ji - 1) ⟨[(1, .str (encS t K R (i + 1))), (2, .ptr 2 0), (5, .i64 (R - 1 : Nat)), (6, .i64 (i + 1 + 1 : Nat))], [some ⟨false, S.map .u8⟩, some ⟨false, us.map .str⟩, some ⟨false, [.slice 0 0 256 1, .slice 1 0 N 1]⟩]⟩ [0, 1, 2] (by omega) rfl (by simp) rfl (by decide) (by simp only [slotsOk, St.get, lookS, hw6]; simp [-List.map_map, -List.map_set, vtuple_zero, rens_append, lows_append, sgOf_zero, sgOf_succ, rens, V.ren, lows, V.low, rens_u8, rens_u32, rens_u64, rens_i64, rens_str, lows_u8, lows_u32, lows_u64, lows_i64, lows_str, allSome, allRw, blksOk_nil, blksOk_none, blksOk_some, getH_zero, getH_succ, getH_nil]) (by simp [-List.map_map, -List.map_set, vtuple_zero, rens_append, lows_append, sgOf_zero, sgOf_succ, rens, V.ren, lows, V.low, rens_u8, rens_u32, rens_u64, rens_i64, rens_str, lows_u8, lows_u32, lows_u64, lows_i64, lows_str, allSome, allRw, blksOk_nil, blksOk_none, blksOk_some, getH_zero, getH_succ, getH_nil]) ⟨i + 1, by omega, rfl⟩
  · obtain rfl : i = R - 1 := by omega
    have hl' : ¬ ((R - 1 + 1 : Nat) : Int) ≤ ((R - 1 : Nat) : Int) := by omega
    simp only [go_sem, ↓reduceIte, Nat.reduceEqDiff, Nat.reduceLT, Nat.reduceLeDiff, Nat.reduceAdd, Nat.reduceSub, Nat.reduceMul, Nat.reduceMod, Nat.reduceDiv, Int.reduceLE, Int.reduceLT, Int.reduceToNat, Int.reduceAdd, Int.reduceSub, Int.reduceMul, Int.reduceEq, Int.reduceNeg, BitVec.reduceOfInt, BitVec.reduceToNat, BitVec.reduceEq, BitVec.reduceNe, BitVec.reduceLT, reduceCtorEq, List.forall_mem_nil, hl']
    exact Fin.ren [0, 1] (by simp) (by simp) (by rfl) (by decide) (by simp [-List.map_map, -List.map_set, vtuple_zero, rens_append, lows_append, sgOf_zero, sgOf_succ, rens, V.ren, lows, V.low, rens_u8, rens_u32, rens_u64, rens_i64, rens_str, lows_u8, lows_u32, lows_u64, lows_i64, lows_str, allSome, allRw, blksOk_nil, blksOk_none, blksOk_some, getH_zero, getH_succ, getH_nil]) (by simp [-List.map_map, -List.map_set, vtuple_zero, rens_append, lows_append, sgOf_zero, sgOf_succ, rens, V.ren, lows, V.low, rens_u8, rens_u32, rens_u64, rens_i64, rens_str, lows_u8, lows_u32, lows_u64, lows_i64, lows_str, allSome, allRw, blksOk_nil, blksOk_none, blksOk_some, getH_zero, getH_succ, getH_nil])
end Go.Vm
end
