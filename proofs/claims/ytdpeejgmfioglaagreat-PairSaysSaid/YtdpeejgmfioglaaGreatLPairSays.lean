/- Proved: the law PairSays answers true for every input (the statement Rows.PairSaysSaid); no condition is added. -/
import Derived.Test.YtdpeejgmfioglaaGreatChecked
import Derived.Test.YtdpeejgmfioglaaGreatRows
import Derived.Test.YtdpeejgmfioglaaGreatVmZ2ToPaG4
import Derived.Test.YtdpeejgmfioglaaGreatHead
set_option linter.unusedVariables false
set_option linter.unusedSimpArgs false
set_option linter.unusedSectionVars false
namespace Go.Proofs.YtdpeejgmfioglaaGreat.pairSays
open Go.Vm Go.ChangeShapes Go.WideShapes Go.ChangeAt Go.RowKit
abbrev argKinds : List ArgK := [.cell .i64, .agg [.str, .str], .cell .i64, .cell .bool, .row [.i64, .i64, .i64, .u32, .u32, .str, .u32, .i64] 64]
set_option maxHeartbeats 4000000 in
set_option maxRecDepth 20000 in
theorem walk_good (s : Int) (hs : s = 1 ∨ s = 2) (sd rc : List (BitVec 8)) (hsd : sd.length = 32) (hrc : rc.length = 32) (bo : Int) (hb : 0 ≤ bo) (hb2 : bo ≤ 1099511627776) (fs : Bool) (rows : List (List V)) (hr : ∀ r ∈ rows, Kinds [.i64, .i64, .i64, .u32, .u32, .str, .u32, .i64] r) (hz : rows.length ≤ 2199023255552) (hd : Option Blk) (hhd : 0 < rows.length → hd = some ⟨true, rows.flatten⟩) (h00 : rows.length = 0 → hd = none) :
    Spec0 Tryz.prog 3 [.i64 s, .agg [.str sd, .str rc], .i64 bo, .bool fs, .slice 0 0 rows.length 8] [hd] (.bool true) [none] := by
  have e180 : w64 (bo + 180) = bo + 180 := w64_of (by omega) (by omega)
  refine spec0_of_vc (by kernel_rfl) (fn := Tryz.f3) Tryz.func3 rfl (by show 5 ≤ 159; decide) (go_start ?_)
  simp only [go_sem, ↓reduceIte, Nat.reduceEqDiff, Nat.reduceLT, Nat.reduceAdd, reduceCtorEq, Tryz.ntmps3]
  refine goCall_mem [] (pnew_spec s hs sd rc hsd hrc bo hb hb2 fs) (by kernel_rfl) (by simp [-List.map_map, -List.map_set]) rfl (by simp [-List.map_map, -List.map_set]) (by decide) (by simp [-List.map_map, -List.map_set]) (by simp [-List.map_map, -List.map_set]) (by simp [-List.map_map, -List.map_set]) (by simp [-List.map_map, -List.map_set]) (by simp) ?_
  simp only [go_sem, ↓reduceIte, Nat.reduceEqDiff, Nat.reduceLT, Nat.reduceAdd, Nat.reduceSub, reduceCtorEq]
  refine goCall_mem [] (rpnew_spec s hs sd rc hsd hrc bo hb hb2 fs) (by kernel_rfl) (by simp [-List.map_map, -List.map_set]) rfl (by simp [-List.map_map, -List.map_set]) (by decide) (by simp [-List.map_map, -List.map_set]) (by simp [-List.map_map, -List.map_set]) (by simp [-List.map_map, -List.map_set]) (by simp [-List.map_map, -List.map_set]) (by simp) ?_
  simp only [go_sem, ↓reduceIte, Nat.reduceEqDiff, Nat.reduceLT, Nat.reduceAdd, Nat.reduceSub, reduceCtorEq]
  refine go_loop (PInv s sd rc bo fs rows hd) ?_ ?_
  · refine start_ren rows.length ⟨[(2, .i64 bo), (11, .ptr 1 0), (13, .ptr 3 0), (58, .slice 0 0 rows.length 8), (59, .i64 rows.length), (60, .i64 (0 : Nat))], [hd, some ⟨false, [.ptr 2 0, .str sd, .str rc, .i64 s, .i64 bo, .i64 0, .bool fs]⟩, some ⟨false, [.i64 0, .u64 0#64]⟩, some ⟨false, [.i64 s, .i64 bo, .i64 0, .str sd, .str rc, .bool fs, .nilSlice]⟩, none]⟩ [0, 2, 3, 4, 1] rfl (by simp) rfl (by decide) ?_ ?_
      ⟨0, 0, 0, 0#64, [], .nilSlice, none, by omega, by simp, ⟨by decide, by decide⟩, ⟨WInv.nil, .inl ⟨rfl, rfl, rfl⟩⟩, rfl⟩
    · simp [slotsOk, St.get, lookS, -List.map_map, -List.map_set]
    · by_cases h0 : 0 < rows.length
      · obtain rfl := hhd h0
        have hpl := plains_flat hr
        simp [hpl, -List.map_map, -List.map_set]
      · obtain rfl := h00 (by omega)
        simp [-List.map_map, -List.map_set]
  rintro j st ⟨i, se, next, bits, l, X, L, hi, hli, hse, ⟨hinv, hX⟩, rfl⟩ _
  by_cases h0 : i < rows.length
  · obtain rfl := hhd (by omega)
    have hpl := plains_flat hr
    have hrl : ∀ r ∈ rows, r.length = 8 := fun r h => (hr r h).length
    have hle0 := flatten_length hrl
    have hrow := row_at (by decide : 0 < 8) hrl h0
    obtain ⟨k, a, b, n, m, t, ad, bt, e, hk, _⟩ := step_row (hr (rows.getD i []) (by rw [List.getD_eq_getElem?_getD, List.getElem?_eq_getElem h0]; exact List.getElem_mem h0))
    rw [e] at hrow
    clear e
    have hof := of2S_spec k a b n m t ad bt hk.1 hk.2
    rcases hX with ⟨rfl, rfl, rfl⟩ | ⟨hne, rfl, rfl⟩
    · by_cases hk2 : k % 2 = 0
      · cases ho : overB bo se b
        · by_cases he : (boxS s sd (BitVec.ofInt 64 se) t).2 = 0
          · exact roundN_sealok s hs sd rc bo hb hb2 fs rows hpl hz hle0 i j hi h0 se next bits hse hinv k a b n m t ad bt hof hrow hk2 ho he _
          · exact roundN_sealerr s hs sd rc bo hb hb2 fs rows hpl hz hle0 i j hi h0 se next bits hse hinv k a b n m t ad bt hof hrow hk2 ho he _
        · exact roundN_sealold s hs sd rc bo hb hb2 fs rows hpl hz hle0 i j hi h0 se next bits hse hinv k a b n m t ad bt hof hrow hk2 ho _
      · by_cases ho : bo + 180 ≤ b
        · exact roundN_openold s hs sd rc bo hb hb2 fs rows hpl hz hle0 i j hi h0 se next bits hse hinv k a b n m t ad bt hof hrow hk2 ho _
        · by_cases hc : rchk [] a = 0
          · by_cases he : (boxO s rc (BitVec.ofInt 64 a) t).2 = 0
            · exact roundN_openok s hs sd rc bo hb hb2 fs rows hpl hz hle0 i j hi h0 se next bits hse hinv k a b n m t ad bt hof hrow hk2 ho hc he _
            · exact roundN_openerr s hs sd rc bo hb hb2 fs rows hpl hz hle0 i j hi h0 se next bits hse hinv k a b n m t ad bt hof hrow hk2 ho hc he _
          · exact roundN_openchk s hs sd rc bo hb hb2 fs rows hpl hz hle0 i j hi h0 se next bits hse hinv k a b n m t ad bt hof hrow hk2 ho hc _
    · by_cases hk2 : k % 2 = 0
      · cases ho : overB bo se b
        · by_cases he : (boxS s sd (BitVec.ofInt 64 se) t).2 = 0
          · exact roundS_sealok s hs sd rc bo hb hb2 fs rows hpl hz hle0 i j hi h0 se next bits l hne hli hse hinv k a b n m t ad bt hof hrow hk2 ho he _
          · exact roundS_sealerr s hs sd rc bo hb hb2 fs rows hpl hz hle0 i j hi h0 se next bits l hne hli hse hinv k a b n m t ad bt hof hrow hk2 ho he _
        · exact roundS_sealold s hs sd rc bo hb hb2 fs rows hpl hz hle0 i j hi h0 se next bits l hne hli hse hinv k a b n m t ad bt hof hrow hk2 ho _
      · by_cases ho : bo + 180 ≤ b
        · exact roundS_openold s hs sd rc bo hb hb2 fs rows hpl hz hle0 i j hi h0 se next bits l hne hli hse hinv k a b n m t ad bt hof hrow hk2 ho _
        · by_cases hc : rchk l a = 0
          · by_cases he : (boxO s rc (BitVec.ofInt 64 a) t).2 = 0
            · exact roundS_openok s hs sd rc bo hb hb2 fs rows hpl hz hle0 i j hi h0 se next bits l hne hli hse hinv k a b n m t ad bt hof hrow hk2 ho hc he _
            · exact roundS_openerr s hs sd rc bo hb hb2 fs rows hpl hz hle0 i j hi h0 se next bits l hne hli hse hinv k a b n m t ad bt hof hrow hk2 ho hc he _
          · exact roundS_openchk s hs sd rc bo hb hb2 fs rows hpl hz hle0 i j hi h0 se next bits l hne hli hse hinv k a b n m t ad bt hof hrow hk2 ho hc _
  · have h0' : ¬ (i : Int) < (rows.length : Int) := by omega
    have hbn := hinv.bounds
    have k1 := pover_spec sd rc s bo se fs next bits (bo + 180) hb hb2
    rw [over_true] at k1
    simp only [go_sem, ↓reduceIte, Nat.reduceEqDiff, Nat.reduceLT, h0', e180]
    refine goCall_mem [1, 2] (k1) (by kernel_rfl) (by simp [-List.map_map, -List.map_set]) rfl (by simp [-List.map_map, -List.map_set]) (by decide) (by simp [-List.map_map, -List.map_set]) (by simp [-List.map_map, -List.map_set]) (by simp [-List.map_map, -List.map_set]) (by simp [-List.map_map, -List.map_set]) (by simp) ?_
    simp only [go_sem, ↓reduceIte, Nat.reduceLT, Nat.reduceAdd, Nat.reduceSub]
    exact Fin.ren [0] (by simp) (by simp) (by rfl) (by decide) (by simp [-List.map_map, -List.map_set]) (by simp [-List.map_map, -List.map_set])
set_option maxRecDepth 20000 in
theorem walk_nil (s : Int) (hs : s = 1 ∨ s = 2) (sd rc : List (BitVec 8)) (hsd : sd.length = 32) (hrc : rc.length = 32) (bo : Int) (hb : 0 ≤ bo) (hb2 : bo ≤ 1099511627776) (fs : Bool) :
    Spec0 Tryz.prog 3 [.i64 s, .agg [.str sd, .str rc], .i64 bo, .bool fs, .nilSlice] [] (.bool true) [] := by
  have e180 : w64 (bo + 180) = bo + 180 := w64_of (by omega) (by omega)
  refine spec0_of_vc (by kernel_rfl) (fn := Tryz.f3) Tryz.func3 rfl (by show 5 ≤ 159; decide) (go_start ?_)
  simp only [go_sem, ↓reduceIte, Nat.reduceEqDiff, Nat.reduceLT, Nat.reduceAdd, reduceCtorEq, Tryz.ntmps3]
  refine goCall_mem [] (pnew_spec s hs sd rc hsd hrc bo hb hb2 fs) (by kernel_rfl) (by simp [-List.map_map, -List.map_set]) rfl (by simp [-List.map_map, -List.map_set]) (by decide) (by simp [-List.map_map, -List.map_set]) (by simp [-List.map_map, -List.map_set]) (by simp [-List.map_map, -List.map_set]) (by simp [-List.map_map, -List.map_set]) (by simp) ?_
  simp only [go_sem, ↓reduceIte, Nat.reduceEqDiff, Nat.reduceLT, Nat.reduceAdd, Nat.reduceSub, reduceCtorEq]
  refine goCall_mem [] (rpnew_spec s hs sd rc hsd hrc bo hb hb2 fs) (by kernel_rfl) (by simp [-List.map_map, -List.map_set]) rfl (by simp [-List.map_map, -List.map_set]) (by decide) (by simp [-List.map_map, -List.map_set]) (by simp [-List.map_map, -List.map_set]) (by simp [-List.map_map, -List.map_set]) (by simp [-List.map_map, -List.map_set]) (by simp) ?_
  simp only [go_sem, ↓reduceIte, Nat.reduceEqDiff, Nat.reduceLT, Nat.reduceAdd, Nat.reduceSub, reduceCtorEq]
  refine go_unroll 1 ?_
  simp only [go_sem, ↓reduceIte, Nat.reduceEqDiff, Nat.reduceLT, Nat.reduceSub, Int.reduceLT, reduceCtorEq]
  have k1 := pover_spec sd rc s bo 0 fs 0 0#64 (bo + 180) hb hb2
  rw [over_true] at k1
  simp only [go_sem, e180]
  refine goCall_mem [1, 2] (k1) (by kernel_rfl) (by simp [-List.map_map, -List.map_set]) rfl (by simp [-List.map_map, -List.map_set]) (by decide) (by simp [-List.map_map, -List.map_set]) (by simp [-List.map_map, -List.map_set]) (by simp [-List.map_map, -List.map_set]) (by simp [-List.map_map, -List.map_set]) (by simp) ?_
  simp only [go_sem, ↓reduceIte, Nat.reduceLT, Nat.reduceAdd, Nat.reduceSub]
  exact Fin.ren [] (by simp) (by simp) (by rfl) (by decide) (by simp [-List.map_map, -List.map_set]) (by simp [-List.map_map, -List.map_set])
theorem bad_nil (s : Int) (sd rc : List (BitVec 8)) (bo : Int) (fs : Bool) (h : ¬ ((s = 1 ∨ s = 2) ∧ sd.length = 32 ∧ rc.length = 32 ∧ 0 ≤ bo ∧ bo ≤ 1099511627776)) :
    Spec0 Tryz.prog 3 [.i64 s, .agg [.str sd, .str rc], .i64 bo, .bool fs, .nilSlice] [] (.bool true) [] := by
  refine spec0_of_vc (by kernel_rfl) (fn := Tryz.f3) Tryz.func3 rfl (by show 5 ≤ 159; decide) (go_start ?_)
  simp only [go_sem, ↓reduceIte, Nat.reduceEqDiff, Nat.reduceLT, Nat.reduceAdd, reduceCtorEq, Tryz.ntmps3]
  refine goCall_mem [] (pnew_bad s sd rc bo fs h) (by kernel_rfl) (by simp [-List.map_map, -List.map_set]) rfl (by simp [-List.map_map, -List.map_set]) (by decide) (by simp [-List.map_map, -List.map_set]) (by simp [-List.map_map, -List.map_set]) (by simp [-List.map_map, -List.map_set]) (by simp [-List.map_map, -List.map_set]) (by simp) ?_
  simp only [go_sem, ↓reduceIte, Nat.reduceEqDiff, Nat.reduceLT, Nat.reduceAdd, Nat.reduceSub, reduceCtorEq]
  refine goCall_mem [] (rpnew_bad s sd rc bo fs h) (by kernel_rfl) (by simp [-List.map_map, -List.map_set]) rfl (by simp [-List.map_map, -List.map_set]) (by decide) (by simp [-List.map_map, -List.map_set]) (by simp [-List.map_map, -List.map_set]) (by simp [-List.map_map, -List.map_set]) (by simp [-List.map_map, -List.map_set]) (by simp) ?_
  simp only [go_sem, ↓reduceIte, Nat.reduceEqDiff, Nat.reduceLT, Nat.reduceSub, Int.reduceEq]
  exact Fin.ren [] (by simp) (by simp) (by rfl) (by decide) (by simp [-List.map_map, -List.map_set]) (by simp [-List.map_map, -List.map_set])
theorem bad_some (s : Int) (sd rc : List (BitVec 8)) (bo : Int) (fs : Bool) (h : ¬ ((s = 1 ∨ s = 2) ∧ sd.length = 32 ∧ rc.length = 32 ∧ 0 ≤ bo ∧ bo ≤ 1099511627776)) (n : Nat) (hd : Option Blk) :
    Spec0 Tryz.prog 3 [.i64 s, .agg [.str sd, .str rc], .i64 bo, .bool fs, .slice 0 0 n 8] [hd] (.bool true) [none] := by
  refine spec0_of_vc (by kernel_rfl) (fn := Tryz.f3) Tryz.func3 rfl (by show 5 ≤ 159; decide) (go_start ?_)
  simp only [go_sem, ↓reduceIte, Nat.reduceEqDiff, Nat.reduceLT, Nat.reduceAdd, reduceCtorEq, Tryz.ntmps3]
  refine goCall_mem [] (pnew_bad s sd rc bo fs h) (by kernel_rfl) (by simp [-List.map_map, -List.map_set]) rfl (by simp [-List.map_map, -List.map_set]) (by decide) (by simp [-List.map_map, -List.map_set]) (by simp [-List.map_map, -List.map_set]) (by simp [-List.map_map, -List.map_set]) (by simp [-List.map_map, -List.map_set]) (by simp) ?_
  simp only [go_sem, ↓reduceIte, Nat.reduceEqDiff, Nat.reduceLT, Nat.reduceAdd, Nat.reduceSub, reduceCtorEq]
  refine goCall_mem [] (rpnew_bad s sd rc bo fs h) (by kernel_rfl) (by simp [-List.map_map, -List.map_set]) rfl (by simp [-List.map_map, -List.map_set]) (by decide) (by simp [-List.map_map, -List.map_set]) (by simp [-List.map_map, -List.map_set]) (by simp [-List.map_map, -List.map_set]) (by simp [-List.map_map, -List.map_set]) (by simp) ?_
  simp only [go_sem, ↓reduceIte, Nat.reduceEqDiff, Nat.reduceLT, Nat.reduceAdd, Nat.reduceSub, Int.reduceEq]
  exact Fin.ren [0] (by simp) (by simp) (by rfl) (by decide) (by simp [-List.map_map, -List.map_set]) (by simp [-List.map_map, -List.map_set])
theorem walk : ∀ vs h, ArgsOk argKinds 0 vs h → ∃ h', Spec0 Tryz.prog 3 vs h (.bool true) h' := by
  rintro vs h ⟨_, _, rfl, ⟨s, rfl, hs, _⟩, _, _, rfl, ⟨_, _, rfl, ⟨sd, rfl, hsd⟩, _, _, rfl, ⟨rc, rfl, hrc⟩, rfl⟩, _, _, rfl, ⟨bo, rfl, hbo⟩, _, _, rfl, ⟨fs, rfl⟩, hrow⟩
  rcases hrow with ⟨vs', rfl, rfl, rfl⟩ | ⟨rows, vs', hd, h', rfl, rfl, hr, hb, h1, h2, rfl, rfl⟩
  · by_cases hg : (s = 1 ∨ s = 2) ∧ sd.length = 32 ∧ rc.length = 32 ∧ 0 ≤ bo ∧ bo ≤ 1099511627776
    · exact ⟨_, walk_nil s hg.1 sd rc hg.2.1 hg.2.2.1 bo hg.2.2.2.1 hg.2.2.2.2 fs⟩
    · exact ⟨_, bad_nil s sd rc bo fs hg⟩
  · by_cases hg : (s = 1 ∨ s = 2) ∧ sd.length = 32 ∧ rc.length = 32 ∧ 0 ≤ bo ∧ bo ≤ 1099511627776
    · exact ⟨_, walk_good s hg.1 sd rc hg.2.1 hg.2.2.1 bo hg.2.2.2.1 hg.2.2.2.2 fs rows hr (by omega) hd h1 h2⟩
    · exact ⟨_, bad_some s sd rc bo fs hg _ hd⟩
theorem facts : joinedFacts Tryz.prog 3 Tryz.f3 Rows.pairSaysSpec Rows.pairSaysRow = true :=
  facts_of (by kernel_rfl) head.laidOut head.rowed (by kernel_rfl) (by kernel_rfl) (by kernel_rfl) head.stops (by kernel_rfl) head.knobs (by kernel_rfl) (by kernel_rfl) (by kernel_rfl) (by kernel_rfl)
    (by kernel_rfl) (by rw [head.plain]; rfl) (by kernel_rfl) head.heard head.mayEnter (by rw [head.lifts]; rfl) (by rw [head.make]; rfl) (by kernel_rfl) (by kernel_rfl) (by kernel_rfl) (by kernel_rfl)
theorem kinds : ArgKs Tryz.prog Tryz.f3.params.toList argKinds := ⟨Tryz.underlying3, ⟨(Cells.struct 23 _ [[.str], [.str]] Tryz.underlying23 (by kernel_rfl) rfl (fun i f ks h1 h2 => match i, h1, h2 with | 0, h1, h2 => (by cases h1; cases h2; exact ⟨rfl, by kernel_rfl⟩) | 1, h1, h2 => (by cases h1; cases h2; exact ⟨rfl, by kernel_rfl⟩) | (i + 2), h1, h2 => (by simp at h1)) (fun i f ks h1 h2 => match i, h1, h2 with | 0, h1, h2 => (by cases h1; cases h2; exact (Cells.one 9 .str Tryz.underlying9)) | 1, h1, h2 => (by cases h1; cases h2; exact (Cells.one 9 .str Tryz.underlying9)) | (i + 2), h1, h2 => (by simp at h1))), by kernel_rfl⟩, Tryz.underlying3, Tryz.underlying4, ⟨36, Tryz.underlying24, (Cells.struct 36 _ [[.i64], [.i64], [.i64], [.u32], [.u32], [.str], [.u32, .i64]] Tryz.underlying36 (by kernel_rfl) rfl (fun i f ks h1 h2 => match i, h1, h2 with | 0, h1, h2 => (by cases h1; cases h2; exact ⟨rfl, by kernel_rfl⟩) | 1, h1, h2 => (by cases h1; cases h2; exact ⟨rfl, by kernel_rfl⟩) | 2, h1, h2 => (by cases h1; cases h2; exact ⟨rfl, by kernel_rfl⟩) | 3, h1, h2 => (by cases h1; cases h2; exact ⟨rfl, by kernel_rfl⟩) | 4, h1, h2 => (by cases h1; cases h2; exact ⟨rfl, by kernel_rfl⟩) | 5, h1, h2 => (by cases h1; cases h2; exact ⟨rfl, by kernel_rfl⟩) | 6, h1, h2 => (by cases h1; cases h2; exact ⟨rfl, by kernel_rfl⟩) | (i + 7), h1, h2 => (by simp at h1)) (fun i f ks h1 h2 => match i, h1, h2 with | 0, h1, h2 => (by cases h1; cases h2; exact (Cells.one 3 .i64 Tryz.underlying3)) | 1, h1, h2 => (by cases h1; cases h2; exact (Cells.one 3 .i64 Tryz.underlying3)) | 2, h1, h2 => (by cases h1; cases h2; exact (Cells.one 3 .i64 Tryz.underlying3)) | 3, h1, h2 => (by cases h1; cases h2; exact (Cells.one 32 .u32 Tryz.underlying32)) | 4, h1, h2 => (by cases h1; cases h2; exact (Cells.one 32 .u32 Tryz.underlying32)) | 5, h1, h2 => (by cases h1; cases h2; exact (Cells.one 9 .str Tryz.underlying9)) | 6, h1, h2 => (by cases h1; cases h2; exact (Cells.struct 34 _ [[.u32], [.i64]] Tryz.underlying34 (by kernel_rfl) rfl (fun i f ks h1 h2 => match i, h1, h2 with | 0, h1, h2 => (by cases h1; cases h2; exact ⟨rfl, by kernel_rfl⟩) | 1, h1, h2 => (by cases h1; cases h2; exact ⟨rfl, by kernel_rfl⟩) | (i + 2), h1, h2 => (by simp at h1)) (fun i f ks h1 h2 => match i, h1, h2 with | 0, h1, h2 => (by cases h1; cases h2; exact (Cells.one 32 .u32 Tryz.underlying32)) | 1, h1, h2 => (by cases h1; cases h2; exact (Cells.one 3 .i64 Tryz.underlying3)) | (i + 2), h1, h2 => (by simp at h1)))) | (i + 7), h1, h2 => (by simp at h1))), by kernel_rfl, by kernel_rfl, by decide, by decide⟩, trivial⟩
theorem reads : ∀ t ∈ Tryz.f3.params.toList, Tryz.prog.readableRec t = true ∧ t < Tryz.prog.types.size := by
  have e : Tryz.f3.params.toList = [3, 23, 3, 4, 24] := by kernel_rfl
  rw [e]
  intro t ht
  simp only [List.mem_cons, List.not_mem_nil, or_false] at ht
  rcases ht with rfl | rfl | rfl | rfl | rfl <;> exact ⟨by kernel_rfl, of_decide_eq_true (by kernel_rfl)⟩
set_option maxRecDepth 100000 in
theorem lifted (os : Os) (started : os.Started) (H : Type) (enc : TypeId × Value → H) :
    ReturnsInHanded {} Tryz.checked os 3 .any (Rows.pairSaysSpec.pre6 enc Tryz.prog Tryz.f3 Rows.pairSaysRow.domain false) (Rows.pairSaysSpec.post enc Tryz.prog Tryz.f3 false true false false) := by
  refine returnsInHanded_of_change_sized (C := Tryz.checked) head.own started (by kernel_rfl) Tryz.func3
    (ChangeSpec.witness6 (enc := enc) (C := Tryz.checked) false ⟨#[], #[.int .i64 0, .agg #[.string ⟨#[]⟩, .string ⟨#[]⟩], .int .i64 0, .bool false, .slice none 0 0], []⟩ 8 (by kernel_rfl) (by kernel_rfl) (by kernel_rfl) (by kernel_rfl)) ?_
  intro W base args ds gs before hval hW _ hsz _
  refine law_post2 (ks := argKinds) (tb := 4) head.laidOut reads kinds (by kernel_rfl) Tryz.underlying4 rfl ?_ hval hW hsz walk
  intro ds h
  match ds, h with
  | [a, b, c, d, e], _ => exact ⟨rfl, rfl, rfl⟩
theorem over : Rows.pairSaysRow.holds Tryz.pinned (OpenSpec.ofChange Rows.pairSaysSpec) :=
  OpenClaim.holds_of_wide 3 Tryz.f3 rfl rfl rfl rfl rfl rfl rfl ⟨rfl, rfl, rfl, rfl, rfl⟩ rfl rfl rfl rfl rfl (by kernel_rfl) Tryz.func3 facts
    (of_decide_eq_true (by kernel_rfl)) (by unfold Func.isWrapper; first | (rw [if_pos (by decide +kernel)]; kernel_rfl) | (rw [if_neg (by decide +kernel)]; exact ⟨rfl, rfl⟩))
    (fun os started H enc _ => lifted os started H enc)
theorem proved : Rows.PairSaysSaid := over
end Go.Proofs.YtdpeejgmfioglaaGreat.pairSays
