/- A part of the proof: laws of a small machine of values, or what one function answers, proved against the model; no conditions beyond those in each theorem. -/
import Derived.Shelf.Strings.Repeat
import Derived.Test.YtdpeejgmfioglaaGreatTypesToChaR
import Derived.Test.YtdpeejgmfioglaaGreatChaVToPoY
import Derived.Test.YtdpeejgmfioglaaGreatShelfMulToPoE
import Derived.Test.YtdpeejgmfioglaaGreatVmZToVmP3
import Derived.Test.YtdpeejgmfioglaaGreatVmTToVmW
set_option linter.unusedVariables false
set_option linter.unusedSimpArgs false
set_option linter.unusedSectionVars false
section
namespace Go.Vm
open Go.Proofs Go.Shelf
def shelf_lays105_ren : Go.Shelf.Ren := ⟨fun | 105 => 46 | 212 => 59 | 99 => 60 | 165 => 61 | 166 => 62 | 170 => 63 | 169 => 64 | 263 => 72 | 264 => 73 | 206 => 74 | 240 => 75 | 241 => 76 | 276 => 81 | 277 => 82 | n => n, fun | 9 => 9 | 3 => 3 | 4 => 4 | 20 => 20 | 0 => 0 | 46 => 101 | 109 => 102 | 5 => 5 | 72 => 107 | 76 => 111 | 51 => 32 | 146 => 121 | 53 => 57 | 148 => 123 | 70 => 105 | 37 => 88 | 75 => 110 | 127 => 125 | 164 => 131 | 80 => 113 | n => n, fun | n => n⟩
theorem shelf_lays105 : Go.Proofs.Lays.n105 Tryz.prog shelf_lays105_ren := {
  mixed := by kernel_rfl
  f99 := Tryz.func60.trans (congrArg some (by kernel_rfl))
  f105 := Tryz.func46.trans (congrArg some (by kernel_rfl))
  f165 := Tryz.func61.trans (congrArg some (by kernel_rfl))
  f166 := Tryz.func62.trans (congrArg some (by kernel_rfl))
  f169 := Tryz.func64.trans (congrArg some (by kernel_rfl))
  f170 := Tryz.func63.trans (congrArg some (by kernel_rfl))
  f206 := Tryz.func74.trans (congrArg some (by kernel_rfl))
  f212 := Tryz.func59.trans (congrArg some (by kernel_rfl))
  f240 := Tryz.func75.trans (congrArg some (by kernel_rfl))
  f241 := Tryz.func76.trans (congrArg some (by kernel_rfl))
  f263 := Tryz.func72.trans (congrArg some (by kernel_rfl))
  f264 := Tryz.func73.trans (congrArg some (by kernel_rfl))
  f276 := Tryz.func81.trans (congrArg some (by kernel_rfl))
  f277 := Tryz.func82.trans (congrArg some (by kernel_rfl))
  t0 := Tryz.underlying0
  a0 := Tryz.isAgg0
  z0 := Tryz.sizeOf0
  v0 := Tryz.zeroValue0
  t3 := Tryz.underlying3
  a3 := Tryz.isAgg3
  z3 := Tryz.sizeOf3
  v3 := Tryz.zeroValue3
  t4 := Tryz.underlying4
  a4 := Tryz.isAgg4
  z4 := Tryz.sizeOf4
  v4 := Tryz.zeroValue4
  t5 := Tryz.underlying5
  a5 := Tryz.isAgg5
  z5 := Tryz.sizeOf5
  v5 := Tryz.zeroValue5
  t9 := Tryz.underlying9
  a9 := Tryz.isAgg9
  z9 := Tryz.sizeOf9
  v9 := Tryz.zeroValue9
  t20 := Tryz.underlying20
  a20 := Tryz.isAgg20
  z20 := Tryz.sizeOf20
  v20 := Tryz.zeroValue20
  t37 := Tryz.underlying88
  a37 := Tryz.isAgg88
  z37 := Tryz.sizeOf88
  v37 := Tryz.zeroValue88
  t46 := Tryz.underlying101
  a46 := Tryz.isAgg101
  z46 := Tryz.sizeOf101
  v46 := Tryz.zeroValue101
  t51 := Tryz.underlying32
  a51 := Tryz.isAgg32
  z51 := Tryz.sizeOf32
  v51 := Tryz.zeroValue32
  t53 := Tryz.underlying57
  a53 := Tryz.isAgg57
  z53 := Tryz.sizeOf57
  v53 := Tryz.zeroValue57
  t70 := Tryz.underlying105
  a70 := Tryz.isAgg105
  z70 := Tryz.sizeOf105
  v70 := Tryz.zeroValue105
  t72 := Tryz.underlying107
  a72 := Tryz.isAgg107
  z72 := Tryz.sizeOf107
  v72 := Tryz.zeroValue107
  t75 := Tryz.underlying110
  a75 := Tryz.isAgg110
  z75 := Tryz.sizeOf110
  v75 := Tryz.zeroValue110
  t76 := Tryz.underlying111
  a76 := Tryz.isAgg111
  z76 := Tryz.sizeOf111
  v76 := Tryz.zeroValue111
  t109 := Tryz.underlying102
  a109 := Tryz.isAgg102
  z109 := Tryz.sizeOf102
  v109 := Tryz.zeroValue102
  t127 := Tryz.underlying125
  a127 := Tryz.isAgg125
  z127 := Tryz.sizeOf125
  v127 := Tryz.zeroValue125
  t146 := Tryz.underlying121
  a146 := Tryz.isAgg121
  z146 := Tryz.sizeOf121
  v146 := Tryz.zeroValue121
  t148 := Tryz.underlying123
  a148 := Tryz.isAgg123
  z148 := Tryz.sizeOf123
  v148 := Tryz.zeroValue123
  t164 := Tryz.underlying131
  a164 := Tryz.isAgg131
  z164 := Tryz.sizeOf131
  v164 := Tryz.zeroValue131 }
theorem shelf_Builder_Extra_105 : Builder.Extra Tryz.prog shelf_lays105_ren := {
  sizeBuilder := by kernel_rfl
  liesBuilder := by kernel_rfl
  t5 := Tryz.underlying5
  a5 := Tryz.isAgg5
  z5 := Tryz.sizeOf5
  v5 := Tryz.zeroValue5
  infoByte := by kernel_rfl
  cellsByte := by kernel_rfl
  sizeByte := by kernel_rfl
  neB5 := by decide }
open Go.RowKit Go.Lib in
theorem shelf_strings_Repeat (s : ByteArray) (c : Nat) (w : World) (hc : c ≤ 9223372036854775807) (hlen : s.size * c ≤ 140737488355328) :
    Calls Tryz.prog 46 #[.string s, .int .i64 c] w fun e w' => e = .returned (.string ⟨(Lib.repeatL s.data.toList c).toArray⟩) ∧ Below w.heap.size w w' := Any.strings_Repeat shelf_lays105 shelf_Builder_Extra_105 s c w hc hlen
end Go.Vm
end
section
namespace Go.Vm
open Go.Proofs
set_option maxRecDepth 20000
def fillB (s : List (BitVec 8)) : List (BitVec 8) := s ++ List.replicate ((16 - s.length % 16) % 16) 0
theorem fillB_length (s : List (BitVec 8)) : (fillB s).length = 16 * ((s.length + 15) / 16) := by unfold fillB; rw [List.length_append, List.length_replicate]; omega
theorem repeat_zero (k : Nat) : ∀ (l : List UInt8), l.map UInt8.toBitVec = [0#8] → (Lib.repeatL l k).map UInt8.toBitVec = List.replicate k 0#8 := by
  intro l h
  induction k with
  | zero => rfl
  | succ k ih => rw [Lib.repeatL, List.map_append, ih, h, List.replicate_succ]; rfl
theorem Repeat_spec (k : Nat) (hk : k ≤ 1000) : PureFn Tryz.prog 46 [.str [0#8], .i64 k] (.str (List.replicate k 0#8)) := by
  refine pure_of_below (by kernel_rfl) (by simp [lows, V.low]) (by simp [V.low]) fun w rargs hr => ?_
  unfold VRs at hr
  obtain ⟨r1, rs, e1, h1, hr⟩ := hr
  unfold VRs at hr
  obtain ⟨r2, rs2, e2, h2, hr⟩ := hr
  unfold VRs at hr
  unfold VR at h1 h2
  obtain ⟨b, rfl, hb⟩ := h1
  subst h2 hr e2
  have ha : rargs = #[.string b, .int .i64 k] := by cases rargs; simp_all
  subst ha
  have hsz : b.size = 1 := by
    have := congrArg List.length hb
    unfold bytesOf at this
    rw [List.length_map, Array.length_toList] at this
    exact this
  refine (shelf_strings_Repeat b k w (by omega) (by rw [hsz]; omega)).mono ?_
  rintro e w' ⟨rfl, hbl⟩
  refine ⟨_, rfl, ?_, hbl⟩
  unfold VR
  exact ⟨_, rfl, repeat_zero k _ hb⟩
theorem zeros_spec (k : Nat) (hk : k ≤ 1000) : PureFn Tryz.prog 38 [.i64 k] (.str (List.replicate k 0#8)) := by
  have hc := chr_spec 0
  rw [show BitVec.ofInt 8 0 = 0#8 from rfl] at hc
  refine pure_of_vc (by kernel_rfl) (fn := Tryz.f38) (by kernel_rfl) Tryz.func38 rfl (by show 1 ≤ 6; decide) (by simp [lows, V.low]) (by simp [V.low]) (go_start ?_)
  simp only [go_sem, Nat.reduceLT, Tryz.ntmps38]
  refine goCall_pure0 (hc) ?_
  simp only [go_sem, ↓reduceIte, Nat.reduceLT, reduceCtorEq]
  refine goCall_pure0 (Repeat_spec k hk) ?_
  simp only [go_sem, ↓reduceIte, Nat.reduceLT]
theorem neg_tmod (n : Nat) : (-(n : Int)).tmod 16 = -((n % 16 : Nat) : Int) := by rw [Int.neg_tmod]; rfl
theorem Rest_spec (n : Nat) (hn : n ≤ 140737488351232) : PureFn Tryz.prog 18 [.i64 (-(n : Int)), .i64 16] (.i64 (((16 - n % 16) % 16 : Nat) : Int)) := by
  have h1 := neg_tmod n
  by_cases h0 : n % 16 = 0
  · have h2 : -((n % 16 : Nat) : Int) = 0 := by omega
    have h3 : (16 - n % 16) % 16 = 0 := by omega
    rw [h2] at h1
    refine pure_of_vc (by kernel_rfl) (fn := Tryz.f18) (by kernel_rfl) Tryz.func18 rfl (by show 2 ≤ 15; decide) (by simp [lows, V.low]) (by simp [V.low]) (go_start ?_)
    simp only [go_sem, ↓reduceIte, Nat.reduceEqDiff, Nat.reduceLT, Int.reduceLT, Int.reduceEq, reduceCtorEq, Tryz.ntmps18, Tryz.results18, h1, h3]
  · have h2 : -((n % 16 : Nat) : Int) < 0 := by omega
    have h3 : w64 (-((n % 16 : Nat) : Int) + 16) = (((16 - n % 16) % 16 : Nat) : Int) := by rw [w64_of (by omega) (by omega)]; omega
    have h4 : w64 (-((n % 16 : Nat) : Int)) = -((n % 16 : Nat) : Int) := w64_of (by omega) (by omega)
    refine pure_of_vc (by kernel_rfl) (fn := Tryz.f18) (by kernel_rfl) Tryz.func18 rfl (by show 2 ≤ 15; decide) (by simp [lows, V.low]) (by simp [V.low]) (go_start ?_)
    simp only [go_sem, ↓reduceIte, Nat.reduceEqDiff, Nat.reduceLT, Int.reduceEq, reduceCtorEq, Tryz.ntmps18, Tryz.results18, h1, h2, h3]
theorem filled_spec (s : List (BitVec 8)) (hs : s.length ≤ 140737488351232) : PureFn Tryz.prog 45 [.str s] (.str (fillB s)) := by
  have hn : w64 (0 - (s.length : Int)) = -(s.length : Int) := by rw [w64_of (by omega) (by omega)]; omega
  refine pure_of_vc (by kernel_rfl) (fn := Tryz.f45) (by kernel_rfl) Tryz.func45 rfl (by show 1 ≤ 10; decide) (by simp [lows, V.low]) (by simp [V.low]) (go_start ?_)
  simp only [go_sem, ↓reduceIte, Nat.reduceLT, reduceCtorEq, Tryz.ntmps45, hn]
  refine goCall_pure0 (Rest_spec _ hs) ?_
  simp only [go_sem, ↓reduceIte, Nat.reduceLT]
  refine goCall_pure0 (zeros_spec _ (by omega)) ?_
  simp only [go_sem, ↓reduceIte, Nat.reduceEqDiff, Nat.reduceLT]
  exact ⟨by omega, rfl⟩
end Go.Vm
end
section
namespace Go.Vm
open Go.Proofs
set_option maxRecDepth 20000
/-- What chapters 7 and 10 refuse. -/
def chkE (k c m t : List (BitVec 8)) (most : Nat) : Int := if k.length = 32 then (if c.length = 12 then (if 2000 < m.length then 2 else if most < t.length then 2 else 0) else 1) else 1
theorem scheck_spec (k c m t : List (BitVec 8)) (most : Nat) : PureFn Tryz.prog 106 [.str k, .str c, .str m, .str t, .i64 most] (.i64 (chkE k c m t most)) := by
  unfold chkE
  by_cases h1 : k.length = 32
  · by_cases h2 : c.length = 12
    · by_cases h3 : 2000 < m.length
      · have h3' : (2000 : Int) < (m.length : Int) := by omega
        refine pure_of_vc (by kernel_rfl) (fn := Tryz.f106) (by kernel_rfl) Tryz.func106 rfl (by show 5 ≤ 30; decide) (by simp [lows, V.low]) (by simp [V.low]) (go_start ?_)
        simp only [go_sem, ↓reduceIte, Nat.reduceEqDiff, Nat.reduceLT, Nat.reduceAdd, reduceCtorEq, Tryz.ntmps106, Tryz.results106, h1, h2, h3, h3']
      · have h3' : ¬ (2000 : Int) < (m.length : Int) := by omega
        by_cases h4 : most < t.length
        · have h4' : (most : Int) < (t.length : Int) := by omega
          refine pure_of_vc (by kernel_rfl) (fn := Tryz.f106) (by kernel_rfl) Tryz.func106 rfl (by show 5 ≤ 30; decide) (by simp [lows, V.low]) (by simp [V.low]) (go_start ?_)
          simp only [go_sem, ↓reduceIte, Nat.reduceEqDiff, Nat.reduceLT, Nat.reduceAdd, reduceCtorEq, Tryz.ntmps106, Tryz.results106, h1, h2, h3, h3', h4, h4']
        · have h4' : ¬ (most : Int) < (t.length : Int) := by omega
          refine pure_of_vc (by kernel_rfl) (fn := Tryz.f106) (by kernel_rfl) Tryz.func106 rfl (by show 5 ≤ 30; decide) (by simp [lows, V.low]) (by simp [V.low]) (go_start ?_)
          simp only [go_sem, ↓reduceIte, Nat.reduceEqDiff, Nat.reduceLT, Nat.reduceAdd, reduceCtorEq, Tryz.ntmps106, Tryz.results106, h1, h2, h3, h3', h4, h4']
    · have h2' : ¬ (c.length : Int) = 12 := by omega
      refine pure_of_vc (by kernel_rfl) (fn := Tryz.f106) (by kernel_rfl) Tryz.func106 rfl (by show 5 ≤ 30; decide) (by simp [lows, V.low]) (by simp [V.low]) (go_start ?_)
      simp only [go_sem, ↓reduceIte, Nat.reduceEqDiff, Nat.reduceLT, Nat.reduceAdd, reduceCtorEq, Tryz.ntmps106, Tryz.results106, h1, h2, h2']
  · have h1' : ¬ (k.length : Int) = 32 := by omega
    refine pure_of_vc (by kernel_rfl) (fn := Tryz.f106) (by kernel_rfl) Tryz.func106 rfl (by show 5 ≤ 30; decide) (by simp [lows, V.low]) (by simp [V.low]) (go_start ?_)
    simp only [go_sem, ↓reduceIte, Nat.reduceEqDiff, Nat.reduceLT, Nat.reduceAdd, reduceCtorEq, Tryz.ntmps106, Tryz.results106, h1, h1']
theorem boxed_spec (k c m t : List (BitVec 8)) (most : Nat) : PureFn Tryz.prog 35 [.str k, .str c, .str m, .str t, .i64 most] (.i64 (chkE k c m t most)) := by
  unfold chkE
  by_cases h1 : k.length = 32
  · by_cases h2 : c.length = 12
    · by_cases h3 : 2000 < m.length
      · have h3' : (2000 : Int) < (m.length : Int) := by omega
        refine pure_of_vc (by kernel_rfl) (fn := Tryz.f35) (by kernel_rfl) Tryz.func35 rfl (by show 5 ≤ 28; decide) (by simp [lows, V.low]) (by simp [V.low]) (go_start ?_)
        simp only [go_sem, ↓reduceIte, Nat.reduceEqDiff, Nat.reduceLT, Nat.reduceAdd, reduceCtorEq, Tryz.ntmps35, Tryz.results35, h1, h2, h3, h3']
      · have h3' : ¬ (2000 : Int) < (m.length : Int) := by omega
        by_cases h4 : most < t.length
        · have h4' : (most : Int) < (t.length : Int) := by omega
          refine pure_of_vc (by kernel_rfl) (fn := Tryz.f35) (by kernel_rfl) Tryz.func35 rfl (by show 5 ≤ 28; decide) (by simp [lows, V.low]) (by simp [V.low]) (go_start ?_)
          simp only [go_sem, ↓reduceIte, Nat.reduceEqDiff, Nat.reduceLT, Nat.reduceAdd, reduceCtorEq, Tryz.ntmps35, Tryz.results35, h1, h2, h3, h3', h4, h4']
        · have h4' : ¬ (most : Int) < (t.length : Int) := by omega
          refine pure_of_vc (by kernel_rfl) (fn := Tryz.f35) (by kernel_rfl) Tryz.func35 rfl (by show 5 ≤ 28; decide) (by simp [lows, V.low]) (by simp [V.low]) (go_start ?_)
          simp only [go_sem, ↓reduceIte, Nat.reduceEqDiff, Nat.reduceLT, Nat.reduceAdd, reduceCtorEq, Tryz.ntmps35, Tryz.results35, h1, h2, h3, h3', h4, h4']
    · have h2' : ¬ (c.length : Int) = 12 := by omega
      refine pure_of_vc (by kernel_rfl) (fn := Tryz.f35) (by kernel_rfl) Tryz.func35 rfl (by show 5 ≤ 28; decide) (by simp [lows, V.low]) (by simp [V.low]) (go_start ?_)
      simp only [go_sem, ↓reduceIte, Nat.reduceEqDiff, Nat.reduceLT, Nat.reduceAdd, reduceCtorEq, Tryz.ntmps35, Tryz.results35, h1, h2, h2']
  · have h1' : ¬ (k.length : Int) = 32 := by omega
    refine pure_of_vc (by kernel_rfl) (fn := Tryz.f35) (by kernel_rfl) Tryz.func35 rfl (by show 5 ≤ 28; decide) (by simp [lows, V.low]) (by simp [V.low]) (go_start ?_)
    simp only [go_sem, ↓reduceIte, Nat.reduceEqDiff, Nat.reduceLT, Nat.reduceAdd, reduceCtorEq, Tryz.ntmps35, Tryz.results35, h1, h1']
theorem chkE_zero (k c m t : List (BitVec 8)) (most : Nat) (h : chkE k c m t most = 0) : k.length = 32 ∧ c.length = 12 ∧ m.length ≤ 2000 ∧ t.length ≤ most := by
  unfold chkE at h
  split at h
  · split at h
    · split at h
      · simp at h
      · split at h
        · simp at h
        · omega
    · simp at h
  · simp at h
theorem sfilled_spec (s : List (BitVec 8)) (hs : s.length ≤ 140737488351232) : PureFn Tryz.prog 111 [.str s] (.str (fillB s)) := by
  have e1 : (s.length : Int).tmod 16 = ((s.length % 16 : Nat) : Int) := rfl
  have e2 : w64 (16 - ((s.length % 16 : Nat) : Int)) = ((16 - s.length % 16 : Nat) : Int) := by rw [w64_of (by omega) (by omega)]; omega
  have e3 : ((16 - s.length % 16 : Nat) : Int).tmod 16 = (((16 - s.length % 16) % 16 : Nat) : Int) := rfl
  have hr := Repeat_spec ((16 - s.length % 16) % 16) (by omega)
  refine pure_of_vc (by kernel_rfl) (fn := Tryz.f111) (by kernel_rfl) Tryz.func111 rfl (by show 1 ≤ 11; decide) (by simp [lows, V.low]) (by simp [V.low]) (go_start ?_)
  simp only [go_sem, ↓reduceIte, Nat.reduceLT, Int.reduceEq, reduceCtorEq, Tryz.ntmps111, e1, e2, e3]
  refine goCall_pure0 (hr) ?_
  simp only [go_sem, ↓reduceIte, Nat.reduceEqDiff, Nat.reduceLT]
  exact ⟨by omega, rfl⟩
def lens8 (m s : List (BitVec 8)) : List (BitVec 8) := leB (BitVec.ofInt 64 (m.length : Int)).toNat 8 ++ leB (BitVec.ofInt 64 (s.length : Int)).toNat 8
def msgB (m s : List (BitVec 8)) : List (BitVec 8) := fillB m ++ (fillB s ++ lens8 m s)
def sealT (k c m s : List (BitVec 8)) : List (BitVec 8) := tagB ((blockB k c 0#32).take 32) (msgB m s)
theorem msgB_length (m s : List (BitVec 8)) (hm : m.length ≤ 2000) (hs : s.length ≤ 2016) : (msgB m s).length ≤ 10000 := by
  unfold msgB lens8
  rw [List.length_append, List.length_append, List.length_append, leB_length, leB_length, fillB_length, fillB_length]; omega
theorem tag_spec (k c m s : List (BitVec 8)) (h1 : k.length = 32) (h2 : c.length = 12) (hm : m.length ≤ 2000) (hs : s.length ≤ 2016) : PureFn Tryz.prog 107 [.str k, .str c, .str m, .str s] (.str (sealT k c m s)) := by
  have hb := Block_spec k c 0#32 h1 h2
  have hbl := blockB_length k c 0#32 h1 h2
  have a1 := AppLittle8_nil (BitVec.ofInt 64 (m.length : Int))
  have hl8 := leB_length (BitVec.ofInt 64 (m.length : Int)).toNat 8
  have hl8s := leB_length (BitVec.ofInt 64 (s.length : Int)).toNat 8
  have a2 := AppLittle8_some (leB (BitVec.ofInt 64 (m.length : Int)).toNat 8) (BitVec.ofInt 64 (s.length : Int)) (by rw [hl8]; omega)
  rw [hl8, show leB (BitVec.ofInt 64 (m.length : Int)).toNat 8 ++ leB (BitVec.ofInt 64 (s.length : Int)).toNat 8 = lens8 m s from rfl] at a2
  have hll : (lens8 m s).length = 16 := by unfold lens8; rw [List.length_append, hl8, hl8s]
  have hfm := fillB_length m
  have hfs := fillB_length s
  have hmsg := msgB_length m s hm hs
  have ht := Tag_spec ((blockB k c 0#32).take 32) (msgB m s) (by rw [List.length_take, hbl]; rfl) (by omega)
  have e : fillB m ++ (fillB s ++ lens8 m s) = msgB m s := rfl
  have e' : tagB ((blockB k c 0#32).take 32) (msgB m s) = sealT k c m s := rfl
  rw [e'] at ht
  refine pure_of_vc (by kernel_rfl) (fn := Tryz.f107) (by kernel_rfl) Tryz.func107 rfl (by show 4 ≤ 43; decide) (by simp [lows, V.low]) (by simp [V.low]) (go_start ?_)
  simp only [go_sem, ↓reduceIte, Nat.reduceEqDiff, Nat.reduceLT, Nat.reduceAdd, Int.reduceLT, BitVec.reduceOfInt, reduceCtorEq, Tryz.ntmps107]
  refine goCall_pure0 (hb) ?_
  simp only [go_sem, ↓reduceIte, Nat.reduceEqDiff, Nat.reduceLT, reduceCtorEq]
  refine goCall_mem [] (a1) (by kernel_rfl) (by simp [-List.map_map, -List.map_set]) rfl (by simp [-List.map_map, -List.map_set]) (by decide) (by simp [-List.map_map, -List.map_set]) (by simp [-List.map_map, -List.map_set]) (by simp [-List.map_map, -List.map_set]) (by simp [-List.map_map, -List.map_set]) (by simp) ?_
  simp only [go_sem, ↓reduceIte, Nat.reduceEqDiff, Nat.reduceLT, Nat.reduceSub, reduceCtorEq]
  refine goCall_mem [0] (a2) (by kernel_rfl) (by simp [-List.map_map, -List.map_set]) rfl (by simp [-List.map_map, -List.map_set]) (by decide) (by simp [-List.map_map, -List.map_set]) (by simp [-List.map_map, -List.map_set]) (by simp [-List.map_map, -List.map_set]) (by simp [-List.map_map, -List.map_set]) (by simp) ?_
  simp only [go_sem, ↓reduceIte, Nat.reduceEqDiff, Nat.reduceLT, Nat.reduceAdd, Nat.reduceSub, Int.reduceLE, Int.reduceToNat, reduceCtorEq, hbl]
  refine goCallD_pure0 (sfilled_spec m (by omega)) ?_
  simp only [go_sem, ↓reduceIte, Nat.reduceEqDiff, Nat.reduceLT, reduceCtorEq]
  refine goCallD_pure0 (sfilled_spec s (by omega)) ?_
  simp only [go_sem, ↓reduceIte, Nat.reduceEqDiff, Nat.reduceLT, Nat.reduceAdd, hll, hfm, hfs]
  have hlt : (lens8 m s).take 16 = lens8 m s := List.take_of_length_le (by omega)
  rw [hlt, List.append_assoc, e]
  refine ⟨by omega, by omega, ?_⟩
  refine goCallD_pure0 (ht) ?_
  simp only [go_sem, ↓reduceIte, Nat.reduceEqDiff, Nat.reduceLT, Nat.reduceAdd]
  kernel_rfl
theorem Rtagged_spec (k c m s : List (BitVec 8)) (h1 : k.length = 32) (h2 : c.length = 12) (hm : m.length ≤ 2000) (hs : s.length ≤ 2016) : PureFn Tryz.prog 37 [.str k, .str c, .str m, .str s] (.str (s ++ sealT k c m s)) := by
  have hb := RBlock_spec k c 0#32 h1 h2
  have hbl := blockB_length k c 0#32 h1 h2
  have hfm := fillB_length m
  have hfs := fillB_length s
  have hl8 := leB_length (BitVec.ofInt 64 (m.length : Int)).toNat 8
  have hl8s := leB_length (BitVec.ofInt 64 (s.length : Int)).toNat 8
  have hmsg := msgB_length m s hm hs
  have ht := RTag_spec ((blockB k c 0#32).take 32) (msgB m s) (by rw [List.length_take, hbl]; rfl) (by omega)
  have e : fillB m ++ (fillB s ++ (leB (BitVec.ofInt 64 (m.length : Int)).toNat 8 ++ leB (BitVec.ofInt 64 (s.length : Int)).toNat 8)) = msgB m s := rfl
  have e' : tagB ((blockB k c 0#32).take 32) (msgB m s) = sealT k c m s := rfl
  have hsl : (sealT k c m s).length = 16 := tagB_length _ _
  rw [e'] at ht
  have lo1 := low_spec 8 (by decide) (BitVec.ofInt 64 (m.length : Int))
  have lo2 := low_spec 8 (by decide) (BitVec.ofInt 64 (s.length : Int))
  refine pure_of_vc (by kernel_rfl) (fn := Tryz.f37) (by kernel_rfl) Tryz.func37 rfl (by show 4 ≤ 43; decide) (by simp [lows, V.low]) (by simp [V.low]) (go_start ?_)
  simp only [go_sem, ↓reduceIte, Nat.reduceEqDiff, Nat.reduceLT, Nat.reduceAdd, Int.reduceLT, BitVec.reduceOfInt, reduceCtorEq, Tryz.ntmps37]
  refine goCall_pure0 (hb) ?_
  simp only [go_sem, ↓reduceIte, Nat.reduceEqDiff, Nat.reduceLT, Int.reduceLE, Int.reduceToNat, reduceCtorEq, hbl]
  refine goCallD_pure0 (filled_spec m (by omega)) ?_
  simp only [go_sem, ↓reduceIte, Nat.reduceEqDiff, Nat.reduceLT, reduceCtorEq]
  refine goCallD_pure0 (filled_spec s (by omega)) ?_
  simp only [go_sem, ↓reduceIte, Nat.reduceEqDiff, Nat.reduceLT, reduceCtorEq, hfm, hfs]
  refine ⟨by omega, ?_⟩
  refine goCallD_pure0 (lo1) ?_
  simp only [go_sem, ↓reduceIte, Nat.reduceEqDiff, Nat.reduceLT, Nat.reduceLeDiff, reduceCtorEq, hl8, hfm, hfs]
  refine ⟨by omega, ?_⟩
  refine goCallD_pure0 (lo2) ?_
  simp only [go_sem, ↓reduceIte, Nat.reduceEqDiff, Nat.reduceLT, Nat.reduceLeDiff, hl8, hl8s, hfm, hfs, List.append_assoc, e]
  refine ⟨by omega, ?_⟩
  refine goCallD_pure0 (ht) ?_
  simp only [go_sem, ↓reduceIte, Nat.reduceEqDiff, Nat.reduceLT, Nat.reduceLeDiff, reduceCtorEq, hsl]
  exact ⟨by kernel_rfl, by omega⟩
end Go.Vm
end
section
namespace Go.Vm
open Go.Proofs
set_option maxRecDepth 20000
theorem xored_length (B : BitVec 32 → List (BitVec 8)) (hB : ∀ m, (B m).length = 64) (n : BitVec 32) (t : List (BitVec 8)) : (xored B n t).length = t.length := by
  unfold xored; rw [xorB_length, stream_length B hB]; omega
/-- What Seal answers. -/
def sealR (k c m t : List (BitVec 8)) : List (BitVec 8) × Int := if chkE k c m t 2000 = 0 then (xored (blockB k c) 1#32 t ++ sealT k c m (xored (blockB k c) 1#32 t), 0) else ([], chkE k c m t 2000)
/-- What Open answers. -/
def openR (k c m z : List (BitVec 8)) : List (BitVec 8) × Int := if chkE k c m z 2016 = 0 then (if z.length < 16 then ([], 4) else if z.take (z.length - 16) ++ sealT k c m (z.take (z.length - 16)) = z then (xored (blockB k c) 1#32 (z.take (z.length - 16)), 0) else ([], 6)) else ([], chkE k c m z 2016)
theorem Seal_spec (k c m t : List (BitVec 8)) : PureFn Tryz.prog 105 [.str k, .str c, .str m, .str t] (.tup [.str (sealR k c m t).1, .i64 (sealR k c m t).2]) := by
  have hc := scheck_spec k c m t 2000
  unfold sealR
  by_cases h : chkE k c m t 2000 = 0
  · obtain ⟨h1, h2, h3, h4⟩ := chkE_zero _ _ _ _ _ h
    rw [h] at hc
    rw [if_pos h]
    have hB : ∀ n, (blockB k c n).length = 64 := fun n => blockB_length k c n h1 h2
    have hx := ChaXor_spec k c 1#32 t (blockB k c) hB (fun n => Block_spec k c n h1 h2) h1 h2 h4
    have hxl := xored_length (blockB k c) hB 1#32 t
    generalize xored (blockB k c) 1#32 t = x at hx hxl ⊢
    have ht := tag_spec k c m x h1 h2 h3 (by omega)
    have htl : (sealT k c m x).length = 16 := tagB_length _ _
    refine pure_of_vc (by kernel_rfl) (fn := Tryz.f105) (by kernel_rfl) Tryz.func105 rfl (by show 4 ≤ 35; decide) (by simp [lows, V.low]) (by simp [lows, V.low]) (go_start ?_)
    simp only [go_sem, ↓reduceIte, Nat.reduceEqDiff, Nat.reduceLT, Nat.reduceAdd, reduceCtorEq, Tryz.ntmps105]
    refine goCall_pure0 (hc) ?_
    simp only [go_sem, ↓reduceIte, Nat.reduceEqDiff, Nat.reduceLT, Int.reduceLE, Int.reduceLT, BitVec.reduceOfInt, reduceCtorEq]
    refine goCall_pure0 (hx) ?_
    simp only [go_sem, ↓reduceIte, Nat.reduceEqDiff, Nat.reduceLT, reduceCtorEq]
    refine goCall_pure0 (ht) ?_
    simp only [go_sem, ↓reduceIte, Nat.reduceEqDiff, Nat.reduceLT, Nat.reduceLeDiff, htl]
    omega
  · rw [if_neg h]
    refine pure_of_vc (by kernel_rfl) (fn := Tryz.f105) (by kernel_rfl) Tryz.func105 rfl (by show 4 ≤ 35; decide) (by simp [lows, V.low]) (by simp [lows, V.low]) (go_start ?_)
    simp only [go_sem, ↓reduceIte, Nat.reduceEqDiff, Nat.reduceLT, Nat.reduceAdd, reduceCtorEq, Tryz.ntmps105]
    refine goCall_pure0 (hc) ?_
    simp only [go_sem, ↓reduceIte, Nat.reduceEqDiff, Nat.reduceLT, h]
theorem RSeal_spec (k c m t : List (BitVec 8)) : PureFn Tryz.prog 28 [.str k, .str c, .str m, .str t] (.tup [.str (sealR k c m t).1, .i64 (sealR k c m t).2]) := by
  have hc := boxed_spec k c m t 2000
  unfold sealR
  by_cases h : chkE k c m t 2000 = 0
  · obtain ⟨h1, h2, h3, h4⟩ := chkE_zero _ _ _ _ _ h
    rw [h] at hc
    rw [if_pos h]
    have hB : ∀ n, (blockB k c n).length = 64 := fun n => blockB_length k c n h1 h2
    have hx := RChaXor_spec k c 1#32 t (blockB k c) hB (fun n => RBlock_spec k c n h1 h2) h1 h2 h4
    have hxl := xored_length (blockB k c) hB 1#32 t
    generalize xored (blockB k c) 1#32 t = x at hx hxl ⊢
    have ht := Rtagged_spec k c m x h1 h2 h3 (by omega)
    refine pure_of_vc (by kernel_rfl) (fn := Tryz.f28) (by kernel_rfl) Tryz.func28 rfl (by show 4 ≤ 33; decide) (by simp [lows, V.low]) (by simp [lows, V.low]) (go_start ?_)
    simp only [go_sem, ↓reduceIte, Nat.reduceEqDiff, Nat.reduceLT, Nat.reduceAdd, reduceCtorEq, Tryz.ntmps28]
    refine goCall_pure0 (hc) ?_
    simp only [go_sem, ↓reduceIte, Nat.reduceEqDiff, Nat.reduceLT, Int.reduceLE, Int.reduceLT, BitVec.reduceOfInt, reduceCtorEq]
    refine goCall_pure0 (hx) ?_
    simp only [go_sem, ↓reduceIte, Nat.reduceEqDiff, Nat.reduceLT, reduceCtorEq]
    refine goCall_pure0 (ht) ?_
    simp only [go_sem, ↓reduceIte, Nat.reduceLT]
  · rw [if_neg h]
    refine pure_of_vc (by kernel_rfl) (fn := Tryz.f28) (by kernel_rfl) Tryz.func28 rfl (by show 4 ≤ 33; decide) (by simp [lows, V.low]) (by simp [lows, V.low]) (go_start ?_)
    simp only [go_sem, ↓reduceIte, Nat.reduceEqDiff, Nat.reduceLT, Nat.reduceAdd, reduceCtorEq, Tryz.ntmps28]
    refine goCall_pure0 (hc) ?_
    simp only [go_sem, ↓reduceIte, Nat.reduceEqDiff, Nat.reduceLT, h]
theorem Open_spec (k c m z : List (BitVec 8)) : PureFn Tryz.prog 104 [.str k, .str c, .str m, .str z] (.tup [.str (openR k c m z).1, .i64 (openR k c m z).2]) := by
  have hc := scheck_spec k c m z 2016
  unfold openR
  by_cases h : chkE k c m z 2016 = 0
  · obtain ⟨h1, h2, h3, h4⟩ := chkE_zero _ _ _ _ _ h
    rw [h] at hc
    rw [if_pos h]
    by_cases hs : z.length < 16
    · have hs' : (z.length : Int) < 16 := by omega
      rw [if_pos hs]
      refine pure_of_vc (by kernel_rfl) (fn := Tryz.f104) (by kernel_rfl) Tryz.func104 rfl (by show 4 ≤ 45; decide) (by simp [lows, V.low]) (by simp [lows, V.low]) (go_start ?_)
      simp only [go_sem, ↓reduceIte, Nat.reduceEqDiff, Nat.reduceLT, Nat.reduceAdd, reduceCtorEq, Tryz.ntmps104]
      refine goCall_pure0 (hc) ?_
      simp only [go_sem, ↓reduceIte, Nat.reduceEqDiff, Nat.reduceLT, reduceCtorEq, hs']
    · have hs' : ¬ (z.length : Int) < 16 := by omega
      rw [if_neg hs]
      have e16 : w64 ((z.length : Int) - 16) = ((z.length - 16 : Nat) : Int) := by rw [w64_of (by omega) (by omega)]; omega
      have hle : ((z.length - 16 : Nat) : Int) ≤ (z.length : Int) := by omega
      have z0 : (0 : Int) ≤ ((z.length - 16 : Nat) : Int) := by omega
      have hxl : (z.take (z.length - 16)).length = z.length - 16 := by rw [List.length_take]; omega
      have hB : ∀ n, (blockB k c n).length = 64 := fun n => blockB_length k c n h1 h2
      have hx := ChaXor_spec k c 1#32 (z.take (z.length - 16)) (blockB k c) hB (fun n => Block_spec k c n h1 h2) h1 h2 (by omega)
      have ht := tag_spec k c m (z.take (z.length - 16)) h1 h2 h3 (by omega)
      have htl : (sealT k c m (z.take (z.length - 16))).length = 16 := tagB_length _ _
      generalize hS : z.take (z.length - 16) = s at hxl hx ht htl ⊢
      generalize xored (blockB k c) 1#32 s = x at hx ⊢
      by_cases hq : s ++ sealT k c m s = z
      · rw [if_pos hq]
        refine pure_of_vc (by kernel_rfl) (fn := Tryz.f104) (by kernel_rfl) Tryz.func104 rfl (by show 4 ≤ 45; decide) (by simp [lows, V.low]) (by simp [lows, V.low]) (go_start ?_)
        simp only [go_sem, ↓reduceIte, Nat.reduceEqDiff, Nat.reduceLT, Nat.reduceAdd, reduceCtorEq, Tryz.ntmps104]
        refine goCall_pure0 (hc) ?_
        simp only [go_sem, ↓reduceIte, Nat.reduceEqDiff, Nat.reduceLT, Int.reduceToNat, reduceCtorEq, hs', e16, hle, z0, hS]
        refine goCall_pure0 (ht) ?_
        simp only [go_sem, ↓reduceIte, Nat.reduceEqDiff, Nat.reduceLT, Nat.reduceLeDiff, Int.reduceLE, Int.reduceLT, BitVec.reduceOfInt, reduceCtorEq, hq, hxl, htl]
        refine ⟨by omega, ?_⟩
        refine goCall_pure0 (hx) ?_
        simp only [go_sem, ↓reduceIte, Nat.reduceEqDiff, Nat.reduceLT]
      · rw [if_neg hq]
        refine pure_of_vc (by kernel_rfl) (fn := Tryz.f104) (by kernel_rfl) Tryz.func104 rfl (by show 4 ≤ 45; decide) (by simp [lows, V.low]) (by simp [lows, V.low]) (go_start ?_)
        simp only [go_sem, ↓reduceIte, Nat.reduceEqDiff, Nat.reduceLT, Nat.reduceAdd, reduceCtorEq, Tryz.ntmps104]
        refine goCall_pure0 (hc) ?_
        simp only [go_sem, ↓reduceIte, Nat.reduceEqDiff, Nat.reduceLT, Int.reduceToNat, reduceCtorEq, hs', e16, hle, z0, hS]
        refine goCall_pure0 (ht) ?_
        simp only [go_sem, ↓reduceIte, Nat.reduceEqDiff, Nat.reduceLT, Nat.reduceLeDiff, reduceCtorEq, hq, hxl, htl]
        omega
  · rw [if_neg h]
    refine pure_of_vc (by kernel_rfl) (fn := Tryz.f104) (by kernel_rfl) Tryz.func104 rfl (by show 4 ≤ 45; decide) (by simp [lows, V.low]) (by simp [lows, V.low]) (go_start ?_)
    simp only [go_sem, ↓reduceIte, Nat.reduceEqDiff, Nat.reduceLT, Nat.reduceAdd, reduceCtorEq, Tryz.ntmps104]
    refine goCall_pure0 (hc) ?_
    simp only [go_sem, ↓reduceIte, Nat.reduceEqDiff, Nat.reduceLT, h]
theorem ROpen_spec (k c m z : List (BitVec 8)) : PureFn Tryz.prog 30 [.str k, .str c, .str m, .str z] (.tup [.str (openR k c m z).1, .i64 (openR k c m z).2]) := by
  have hc := boxed_spec k c m z 2016
  unfold openR
  by_cases h : chkE k c m z 2016 = 0
  · obtain ⟨h1, h2, h3, h4⟩ := chkE_zero _ _ _ _ _ h
    rw [h] at hc
    rw [if_pos h]
    by_cases hs : z.length < 16
    · have hs' : (z.length : Int) < 16 := by omega
      rw [if_pos hs]
      refine pure_of_vc (by kernel_rfl) (fn := Tryz.f30) (by kernel_rfl) Tryz.func30 rfl (by show 4 ≤ 41; decide) (by simp [lows, V.low]) (by simp [lows, V.low]) (go_start ?_)
      simp only [go_sem, ↓reduceIte, Nat.reduceEqDiff, Nat.reduceLT, Nat.reduceAdd, reduceCtorEq, Tryz.ntmps30]
      refine goCall_pure0 (hc) ?_
      simp only [go_sem, ↓reduceIte, Nat.reduceEqDiff, Nat.reduceLT, reduceCtorEq, hs']
    · have hs' : ¬ (z.length : Int) < 16 := by omega
      rw [if_neg hs]
      have e16 : w64 ((z.length : Int) - 16) = ((z.length - 16 : Nat) : Int) := by rw [w64_of (by omega) (by omega)]; omega
      have hle : ((z.length - 16 : Nat) : Int) ≤ (z.length : Int) := by omega
      have z0 : (0 : Int) ≤ ((z.length - 16 : Nat) : Int) := by omega
      have hxl : (z.take (z.length - 16)).length = z.length - 16 := by rw [List.length_take]; omega
      have hB : ∀ n, (blockB k c n).length = 64 := fun n => blockB_length k c n h1 h2
      have hx := RChaXor_spec k c 1#32 (z.take (z.length - 16)) (blockB k c) hB (fun n => RBlock_spec k c n h1 h2) h1 h2 (by omega)
      have ht := Rtagged_spec k c m (z.take (z.length - 16)) h1 h2 h3 (by omega)
      generalize hS : z.take (z.length - 16) = s at hxl hx ht ⊢
      generalize xored (blockB k c) 1#32 s = x at hx ⊢
      by_cases hq : s ++ sealT k c m s = z
      · rw [if_pos hq]
        refine pure_of_vc (by kernel_rfl) (fn := Tryz.f30) (by kernel_rfl) Tryz.func30 rfl (by show 4 ≤ 41; decide) (by simp [lows, V.low]) (by simp [lows, V.low]) (go_start ?_)
        simp only [go_sem, ↓reduceIte, Nat.reduceEqDiff, Nat.reduceLT, Nat.reduceAdd, reduceCtorEq, Tryz.ntmps30]
        refine goCall_pure0 (hc) ?_
        simp only [go_sem, ↓reduceIte, Nat.reduceEqDiff, Nat.reduceLT, Int.reduceToNat, reduceCtorEq, hs', e16, hle, z0, hS]
        refine goCall_pure0 (ht) ?_
        simp only [go_sem, ↓reduceIte, Nat.reduceEqDiff, Nat.reduceLT, Int.reduceLE, Int.reduceLT, BitVec.reduceOfInt, reduceCtorEq, hq]
        refine goCall_pure0 (hx) ?_
        simp only [go_sem, ↓reduceIte, Nat.reduceEqDiff, Nat.reduceLT]
      · rw [if_neg hq]
        refine pure_of_vc (by kernel_rfl) (fn := Tryz.f30) (by kernel_rfl) Tryz.func30 rfl (by show 4 ≤ 41; decide) (by simp [lows, V.low]) (by simp [lows, V.low]) (go_start ?_)
        simp only [go_sem, ↓reduceIte, Nat.reduceEqDiff, Nat.reduceLT, Nat.reduceAdd, reduceCtorEq, Tryz.ntmps30]
        refine goCall_pure0 (hc) ?_
        simp only [go_sem, ↓reduceIte, Nat.reduceEqDiff, Nat.reduceLT, Int.reduceToNat, reduceCtorEq, hs', e16, hle, z0, hS]
        refine goCall_pure0 (ht) ?_
        simp only [go_sem, ↓reduceIte, Nat.reduceEqDiff, Nat.reduceLT, reduceCtorEq, hq]
  · rw [if_neg h]
    refine pure_of_vc (by kernel_rfl) (fn := Tryz.f30) (by kernel_rfl) Tryz.func30 rfl (by show 4 ≤ 41; decide) (by simp [lows, V.low]) (by simp [lows, V.low]) (go_start ?_)
    simp only [go_sem, ↓reduceIte, Nat.reduceEqDiff, Nat.reduceLT, Nat.reduceAdd, reduceCtorEq, Tryz.ntmps30]
    refine goCall_pure0 (hc) ?_
    simp only [go_sem, ↓reduceIte, Nat.reduceEqDiff, Nat.reduceLT, h]
/-- What Long and Unlong answer. -/
def longR (f : List (BitVec 8) → List (BitVec 8) → List (BitVec 8) → List (BitVec 8) → List (BitVec 8) × Int) (k c m t : List (BitVec 8)) : List (BitVec 8) × Int := if k.length = 32 ∧ c.length = 24 then f (subB k (c.take 16)) (List.replicate 4 0#8 ++ c.drop 16) m t else ([], 1)
end Go.Vm
end
section
namespace Go.Vm
open Go.Proofs
set_option maxRecDepth 20000
def zero4 : List (BitVec 8) := [0#8, 0#8, 0#8, 0#8]
/-- The nonce of a suite. -/
def nonS (s : Int) (n : BitVec 64) : List (BitVec 8) := if s = 1 then zero4 ++ leB n.toNat 8 else zero4 ++ beB n.toNat 8
theorem nonB_spec (n : BitVec 64) : PureFn Tryz.prog 100 [.agg [], .u64 n] (.str (zero4 ++ leB n.toNat 8)) := by
  have ha := AppLittle8_some zero4 n (by decide)
  have hl := leB_length n.toNat 8
  rw [show zero4.length = 4 from rfl] at ha
  unfold zero4 at ha ⊢
  generalize leB n.toNat 8 = z at *
  have hz : z.take 8 = z := List.take_of_length_le (by omega)
  refine pure_of_vc (by kernel_rfl) (fn := Tryz.f100) (by kernel_rfl) Tryz.func100 rfl (by show 2 ≤ 9; decide) (by simp [lows, V.low]) (by simp [V.low]) (go_start ?_)
  simp only [go_sem, ↓reduceIte, Nat.reduceEqDiff, Nat.reduceLT, Int.reduceLE, Int.reduceToNat, Int.reduceMul, Tryz.ntmps100]
  refine goCall_mem [1] (ha) (by kernel_rfl) (by simp [-List.map_map, -List.map_set]) rfl (by simp [-List.map_map, -List.map_set]) (by decide) (by simp [-List.map_map, -List.map_set]) (by simp [-List.map_map, -List.map_set]) (by simp [-List.map_map, -List.map_set]) (by simp [-List.map_map, -List.map_set]) (by simp) ?_
  simp only [go_sem, ↓reduceIte, Nat.reduceLT, Nat.reduceAdd, Nat.reduceSub, hl, hz]
theorem nonG_spec (n : BitVec 64) : PureFn Tryz.prog 127 [.agg [], .u64 n] (.str (zero4 ++ beB n.toNat 8)) := by
  have ha := AppBig8_some zero4 n (by decide)
  have hl := beB_length n.toNat 8
  rw [show zero4.length = 4 from rfl] at ha
  unfold zero4 at ha ⊢
  generalize beB n.toNat 8 = z at *
  have hz : z.take 8 = z := List.take_of_length_le (by omega)
  refine pure_of_vc (by kernel_rfl) (fn := Tryz.f127) (by kernel_rfl) Tryz.func127 rfl (by show 2 ≤ 9; decide) (by simp [lows, V.low]) (by simp [V.low]) (go_start ?_)
  simp only [go_sem, ↓reduceIte, Nat.reduceEqDiff, Nat.reduceLT, Int.reduceLE, Int.reduceToNat, Int.reduceMul, Tryz.ntmps127]
  refine goCall_mem [1] (ha) (by kernel_rfl) (by simp [-List.map_map, -List.map_set]) rfl (by simp [-List.map_map, -List.map_set]) (by decide) (by simp [-List.map_map, -List.map_set]) (by simp [-List.map_map, -List.map_set]) (by simp [-List.map_map, -List.map_set]) (by simp [-List.map_map, -List.map_set]) (by simp) ?_
  simp only [go_sem, ↓reduceIte, Nat.reduceLT, Nat.reduceAdd, Nat.reduceSub, hl, hz]
theorem rnon_spec (s : Int) (n : BitVec 64) : PureFn Tryz.prog 29 [.i64 s, .u64 n] (.str (nonS s n)) := by
  have hz := zeros_spec 4 (by decide)
  rw [show List.replicate 4 0#8 = zero4 from rfl] at hz
  have h1 := low_spec 8 (by decide) n
  have h2 := high_spec 8 (by decide) n
  have l1 := leB_length n.toNat 8
  have l2 := beB_length n.toNat 8
  have l3 : zero4.length = 4 := rfl
  unfold nonS
  by_cases hs : s = 1
  · rw [if_pos hs]
    refine pure_of_vc (by kernel_rfl) (fn := Tryz.f29) (by kernel_rfl) Tryz.func29 rfl (by show 2 ≤ 15; decide) (by simp [lows, V.low]) (by simp [V.low]) (go_start ?_)
    simp only [go_sem, ↓reduceIte, Nat.reduceLT, reduceCtorEq, Tryz.ntmps29, hs]
    refine goCall_pure0 (hz) ?_
    simp only [go_sem, ↓reduceIte, Nat.reduceEqDiff, Nat.reduceLT]
    refine goCall_pure0 (h1) ?_
    simp only [go_sem, ↓reduceIte, Nat.reduceEqDiff, Nat.reduceLT]
    omega
  · rw [if_neg hs]
    refine pure_of_vc (by kernel_rfl) (fn := Tryz.f29) (by kernel_rfl) Tryz.func29 rfl (by show 2 ≤ 15; decide) (by simp [lows, V.low]) (by simp [V.low]) (go_start ?_)
    simp only [go_sem, ↓reduceIte, Nat.reduceLT, reduceCtorEq, Tryz.ntmps29, hs]
    refine goCall_pure0 (hz) ?_
    simp only [go_sem, ↓reduceIte, Nat.reduceEqDiff, Nat.reduceLT]
    refine goCall_pure0 (h2) ?_
    simp only [go_sem, ↓reduceIte, Nat.reduceEqDiff, Nat.reduceLT]
    omega
theorem bseal_spec (k c m t : List (BitVec 8)) : PureFn Tryz.prog 102 [.agg [], .str k, .str c, .str m, .str t] (.tup [.str (sealR k c m t).1, .i64 (sealR k c m t).2]) := by
  have h := Seal_spec k c m t
  generalize sealR k c m t = g at *
  refine pure_of_vc (by kernel_rfl) (fn := Tryz.f102) (by kernel_rfl) Tryz.func102 rfl (by show 5 ≤ 19; decide) (by simp [lows, V.low]) (by simp [lows, V.low]) (go_start ?_)
  simp only [go_sem, ↓reduceIte, Nat.reduceEqDiff, Nat.reduceLT, Nat.reduceAdd, reduceCtorEq, Tryz.ntmps102]
  refine goCall_pure0 (h) ?_
  simp only [go_sem, ↓reduceIte, Nat.reduceEqDiff, Nat.reduceLT]
theorem bopen_spec (k c m t : List (BitVec 8)) : PureFn Tryz.prog 101 [.agg [], .str k, .str c, .str m, .str t] (.tup [.str (openR k c m t).1, .i64 (openR k c m t).2]) := by
  have h := Open_spec k c m t
  generalize openR k c m t = g at *
  refine pure_of_vc (by kernel_rfl) (fn := Tryz.f101) (by kernel_rfl) Tryz.func101 rfl (by show 5 ≤ 19; decide) (by simp [lows, V.low]) (by simp [lows, V.low]) (go_start ?_)
  simp only [go_sem, ↓reduceIte, Nat.reduceEqDiff, Nat.reduceLT, Nat.reduceAdd, reduceCtorEq, Tryz.ntmps101]
  refine goCall_pure0 (h) ?_
  simp only [go_sem, ↓reduceIte, Nat.reduceEqDiff, Nat.reduceLT]
theorem of_nilIface : ofValue Value.nilIface = V.nilIface := rfl
theorem ni74 : noIface Tryz.prog 74 = true := by kernel_rfl
theorem ni75 : noIface Tryz.prog 75 = true := by kernel_rfl
theorem goInvokeD_step {P : Program} {m n : Nat} {R : Exit → St → Prop} {k : List Fr} {s : St} {l : List Oper} {ops : Array Oper} {dst : Option Tmp} {tr : Tr} {t : TypeId} {v : V} {name : String} {args : List V} (f : FuncId) (h : methOf P t name = some f) (hk : goCallD P m n R (.fn f [] []) (v :: args) dst l tr ops k s) : goInvokeD P m n R (.iface t v) name args dst l tr ops k s := by
  rw [goInvokeD_to h]; exact hk
theorem goResD_pos {P : Program} {m n : Nat} {R : Exit → St → Prop} {k : List Fr} {s : St} {l : List Oper} {ops : Array Oper} {dst : Option Tmp} {tr : Tr} {c : Prop} [Decidable c] {r : Res} (h : c) (hk : goResD P m n R (some r) dst l tr ops k s) : goResD P m n R (if c then some r else none) dst l tr ops k s := by
  rw [if_pos h]; exact hk
theorem of1_spec : PureFn Tryz.prog 27 [.i64 1] (.iface 74 (.agg [])) := by
  refine pure_of_vc (by kernel_rfl) (fn := Tryz.f27) (by kernel_rfl) Tryz.func27 rfl (by show 1 ≤ 12; decide) (by simp [lows, V.low]) (by simp [lows, V.low]) (go_start ?_)
  simp only [go_sem, ↓reduceIte, Nat.reduceLT, reduceCtorEq, Tryz.ntmps27, Tryz.results27, ni74, of_nilIface]
theorem of2_spec : PureFn Tryz.prog 27 [.i64 2] (.iface 75 (.agg [])) := by
  refine pure_of_vc (by kernel_rfl) (fn := Tryz.f27) (by kernel_rfl) Tryz.func27 rfl (by show 1 ≤ 12; decide) (by simp [lows, V.low]) (by simp [lows, V.low]) (go_start ?_)
  simp only [go_sem, ↓reduceIte, Nat.reduceEqDiff, Nat.reduceLT, Int.reduceEq, reduceCtorEq, Tryz.ntmps27, Tryz.results27, ni75, of_nilIface]
theorem nseal1 (k : List (BitVec 8)) (n : BitVec 64) (m t : List (BitVec 8)) : PureFn Tryz.prog 19 [.i64 1, .str k, .u64 n, .str m, .str t] (.tup [.str (sealR k (nonS 1 n) m t).1, .i64 (sealR k (nonS 1 n) m t).2]) := by
  have hn := nonB_spec n
  rw [show zero4 ++ leB n.toNat 8 = nonS 1 n from rfl] at hn
  generalize nonS 1 n = z at *
  have hs := bseal_spec k z m t
  generalize sealR k z m t = g at *
  refine pure_of_vc (by kernel_rfl) (fn := Tryz.f19) (by kernel_rfl) Tryz.func19 rfl (by show 5 ≤ 30; decide) (by simp [lows, V.low]) (by simp [lows, V.low]) (go_start ?_)
  simp only [go_sem, ↓reduceIte, Nat.reduceLT, Nat.reduceAdd, reduceCtorEq, Tryz.ntmps19]
  refine goCall_pure0 (of1_spec) ?_
  simp only [go_sem, ↓reduceIte, Nat.reduceEqDiff, Nat.reduceLT, reduceCtorEq, of_nilIface]
  refine goInvokeD_step 100 (by kernel_rfl) ?_
  refine goCallD_pure0 (hn) ?_
  simp only [go_sem, ↓reduceIte, Nat.reduceEqDiff, Nat.reduceLT, reduceCtorEq]
  refine goResD_pos (by kernel_rfl) ?_
  simp only [go_sem, ↓reduceIte, Nat.reduceEqDiff, Nat.reduceLT]
  refine goInvokeD_step 102 (by kernel_rfl) ?_
  refine goCallD_pure0 (hs) ?_
  simp only [go_sem, ↓reduceIte, Nat.reduceEqDiff, Nat.reduceLT]
  kernel_rfl
theorem nopen1 (k : List (BitVec 8)) (n : BitVec 64) (m t : List (BitVec 8)) : PureFn Tryz.prog 23 [.i64 1, .str k, .u64 n, .str m, .str t] (.tup [.str (openR k (nonS 1 n) m t).1, .i64 (openR k (nonS 1 n) m t).2]) := by
  have hn := nonB_spec n
  rw [show zero4 ++ leB n.toNat 8 = nonS 1 n from rfl] at hn
  generalize nonS 1 n = z at *
  have hs := bopen_spec k z m t
  generalize openR k z m t = g at *
  refine pure_of_vc (by kernel_rfl) (fn := Tryz.f23) (by kernel_rfl) Tryz.func23 rfl (by show 5 ≤ 30; decide) (by simp [lows, V.low]) (by simp [lows, V.low]) (go_start ?_)
  simp only [go_sem, ↓reduceIte, Nat.reduceLT, Nat.reduceAdd, reduceCtorEq, Tryz.ntmps23]
  refine goCall_pure0 (of1_spec) ?_
  simp only [go_sem, ↓reduceIte, Nat.reduceEqDiff, Nat.reduceLT, reduceCtorEq, of_nilIface]
  refine goInvokeD_step 100 (by kernel_rfl) ?_
  refine goCallD_pure0 (hn) ?_
  simp only [go_sem, ↓reduceIte, Nat.reduceEqDiff, Nat.reduceLT, reduceCtorEq]
  refine goResD_pos (by kernel_rfl) ?_
  simp only [go_sem, ↓reduceIte, Nat.reduceEqDiff, Nat.reduceLT]
  refine goInvokeD_step 101 (by kernel_rfl) ?_
  refine goCallD_pure0 (hs) ?_
  simp only [go_sem, ↓reduceIte, Nat.reduceEqDiff, Nat.reduceLT]
  kernel_rfl
end Go.Vm
end
section
namespace Go.Vm
open Go.Proofs
set_option maxRecDepth 20000
def gmulL : Nat → BitVec 8 → BitVec 8 → BitVec 8 → BitVec 8
  | 0, _, _, n => n
  | k + 1, a, b, n => if 0#8 < b then gmulL k (a <<< 1 ^^^ a >>> 7 * 27) (b >>> 1) (n ^^^ a * (b &&& 1)) else n
def gmul (a b : BitVec 8) : BitVec 8 := gmulL 8 a b 0
theorem Mul_spec (a b : BitVec 8) : PureFn Tryz.prog 144 [.u8 a, .u8 b] (.u8 (gmul a b)) := by
  refine pure_of_vc (by kernel_rfl) (fn := Tryz.f144) (by kernel_rfl) Tryz.func144 rfl (by show 2 ≤ 23; decide) (by simp [lows, V.low]) (by simp [V.low]) (go_start ?_)
  simp only [go_sem, Nat.reduceLT, Int.reduceLT, BitVec.reduceOfInt, Tryz.ntmps144]
  refine go_loop (fun j s => ∃ a' b' n', s = ⟨[(0, .u8 a'), (1, .u8 b'), (5, .u8 n')], []⟩ ∧ b'.toNat < 2 ^ j ∧ gmul a b = gmulL j a' b' n') ?_ ?_
  · exact start_mk 8 ⟨[(0, .u8 a), (1, .u8 b), (5, .u8 0)], []⟩ (by simp [St.get, lookS]) rfl (fun _ _ h => h) ⟨a, b, 0, rfl, b.isLt, rfl⟩
  · rintro j s ⟨a', b', n', rfl, hb, he⟩ _
    simp only [go_sem, ↓reduceIte, Nat.reduceEqDiff, Nat.reduceLT, Int.reduceLE, Int.reduceLT, BitVec.reduceOfInt, BitVec.reduceToNat, reduceCtorEq]
    split
    · rename_i h0
      cases j with
      | zero => exact absurd h0 (by rw [BitVec.lt_def]; simp; omega)
      | succ j =>
        refine again_mk j ⟨[(0, .u8 (a' <<< 1 ^^^ a' >>> 7 * 27)), (1, .u8 (b' >>> 1)), (5, .u8 (n' ^^^ a' * (b' &&& 1)))], []⟩ (by omega) (by simp [St.get, lookS]) rfl (fun _ _ h => h) ⟨_, _, _, rfl, ?_, ?_⟩
        · simp [Nat.shiftRight_eq_div_pow]; omega
        · rw [he, gmulL, if_pos h0]
    · rename_i h0
      rw [he]
      cases j with
      | zero => rfl
      | succ j => rw [gmulL, if_neg h0]
def rmA (a b : BitVec 8) : Nat → Int
  | 0 => 0
  | i + 1 => xor64 (rmA a b i) (w64 (shl64 a.toNat i * (shr64 b.toNat i).tmod 2))
def rmR (c : Int) : Nat → Int
  | 0 => c
  | i + 1 => xor64 (rmR c i) (w64 (shl64 283 (6 - i) * (shr64 (rmR c i) (14 - i)).tmod 2))
def rmul (a b : BitVec 8) : BitVec 8 := BitVec.ofInt 8 (rmR (rmA a b 8) 7)
theorem RMul_spec (a b : BitVec 8) : PureFn Tryz.prog 66 [.u8 a, .u8 b] (.u8 (rmul a b)) := by
  refine pure_of_vc (by kernel_rfl) (fn := Tryz.f66) (by kernel_rfl) Tryz.func66 rfl (by show 2 ≤ 40; decide) (by simp [lows, V.low]) (by simp [V.low]) (go_start ?_)
  simp only [go_sem, Nat.reduceLT, Int.reduceLT, BitVec.reduceOfInt, Tryz.ntmps66]
  refine go_loop (fun j s => ∃ i, i + j = 8 ∧ s = ⟨[(0, .u8 a), (1, .u8 b), (5, .i64 (rmA a b i)), (8, .i64 i)], []⟩) ?_ ?_
  · exact start_mk 8 ⟨[(0, .u8 a), (1, .u8 b), (5, .i64 0), (8, .i64 0)], []⟩ (by simp [St.get, lookS]) rfl (fun _ _ h => h) ⟨0, by omega, rfl⟩
  · rintro j s ⟨i, hi, rfl⟩ _
    simp only [go_sem, ↓reduceIte, Nat.reduceEqDiff, Nat.reduceLT, Int.reduceEq, reduceCtorEq]
    split
    · rename_i h0
      refine ⟨by omega, by omega, by kernel_rfl, ?_⟩
      refine again_mk (j - 1) ⟨[(0, .u8 a), (1, .u8 b), (5, .i64 (rmA a b (i + 1))), (8, .i64 (i + 1 : Nat))], []⟩ (by omega) ?_ rfl (fun _ _ h => h) ⟨i + 1, by omega, rfl⟩
      have : w64 ((i : Int) + 1) = ((i + 1 : Nat) : Int) := by rw [w64_of (by omega) (by omega)]; omega
      simp [St.get, lookS, rmA, this]
    · obtain rfl : i = 8 := by omega
      refine go_loop (fun j s => ∃ i, i + j = 7 ∧ s = ⟨[(0, .u8 a), (1, .u8 b), (5, .i64 (rmR (rmA a b 8) i)), (7, .i64 (14 - i))], []⟩) ?_ ?_
      · exact start_mk 7 ⟨[(0, .u8 a), (1, .u8 b), (5, .i64 (rmA a b 8)), (7, .i64 14)], []⟩ (by simp [St.get, lookS]) rfl (fun _ _ h => h) ⟨0, by omega, rfl⟩
      · rintro j s ⟨i, hi, rfl⟩ _
        simp only [go_sem, ↓reduceIte, Nat.reduceEqDiff, Nat.reduceLT, Int.reduceEq, reduceCtorEq]
        split
        · rename_i h1
          have e1 : w64 (14 - (i : Int) - 8) = 6 - i := by rw [w64_of (by omega) (by omega)]; omega
          have e2 : w64 (14 - (i : Int) - 1) = 14 - (i + 1 : Nat) := by rw [w64_of (by omega) (by omega)]; omega
          simp only [e1, e2]
          refine ⟨by omega, by omega, by kernel_rfl, ?_⟩
          refine again_mk (j - 1) ⟨[(0, .u8 a), (1, .u8 b), (5, .i64 (rmR (rmA a b 8) (i + 1))), (7, .i64 (14 - (i + 1 : Nat)))], []⟩ (by omega) ?_ rfl (fun _ _ h => h) ⟨i + 1, by omega, rfl⟩
          have e3 : (6 - (i : Int)).toNat = 6 - i := by omega
          have e4 : (14 - (i : Int)).toNat = 14 - i := by omega
          simp [St.get, lookS, rmR, e3, e4]
        · obtain rfl : i = 7 := by omega
          rfl
def nx (a : Nat) : Nat := (a * 2 % 256) ^^^ (a / 128 * 27)
def ngm : Nat → Nat → Nat → Nat → Nat := fun k => Nat.rec (fun _ _ n => n) (fun _ ih a b n => ih (nx a) (b / 2) (n ^^^ a * (b % 2))) k
def nrA (a b : Nat) : Nat → Nat := fun i => Nat.rec 0 (fun i ih => ih ^^^ ((a <<< i) * ((b >>> i) % 2))) i
def nrR (c : Nat) : Nat → Nat := fun i => Nat.rec c (fun i ih => ih ^^^ ((283 <<< (6 - i)) * ((ih >>> (14 - i)) % 2))) i
theorem chk : nall (fun a => nall (fun b => Nat.beq (ngm 8 a b 0) (nrR (nrA a b 8) 7 % 256)) 256) 256 = true := by decide +kernel
theorem nrA_lt (a b : Nat) (ha : a < 256) : ∀ i, i ≤ 8 → nrA a b i < 32768
  | 0, _ => by show 0 < _; omega
  | i + 1, h => by
    have := nrA_lt a b ha i (by omega)
    refine Nat.xor_lt_two_pow (n := 15) this ?_
    have h2 : (b >>> i) % 2 ≤ 1 := by omega
    have h3 : a <<< i < 32768 := by
      rw [Nat.shiftLeft_eq]
      have : 2 ^ i ≤ 2 ^ 7 := Nat.pow_le_pow_right (by omega) (by omega)
      have : a * 2 ^ i ≤ 255 * 2 ^ 7 := Nat.mul_le_mul (by omega) this
      omega
    have : (a <<< i) * ((b >>> i) % 2) ≤ (a <<< i) * 1 := Nat.mul_le_mul_left _ h2
    show _ < 32768
    omega
theorem rmA_eq (a b : BitVec 8) : ∀ i, i ≤ 8 → rmA a b i = (nrA a.toNat b.toNat i : Nat)
  | 0, _ => rfl
  | i + 1, h => by
    have hl := nrA_lt a.toNat b.toNat a.isLt i (by omega)
    have hl2 := nrA_lt a.toNat b.toNat a.isLt (i + 1) h
    have h3 : a.toNat <<< i < 32768 := by
      rw [Nat.shiftLeft_eq]
      have : 2 ^ i ≤ 2 ^ 7 := Nat.pow_le_pow_right (by omega) (by omega)
      have : a.toNat * 2 ^ i ≤ 255 * 2 ^ 7 := Nat.mul_le_mul (by omega) this
      omega
    have h4 : (a.toNat <<< i) * ((b.toNat >>> i) % 2) ≤ (a.toNat <<< i) * 1 := Nat.mul_le_mul_left _ (by omega)
    rw [rmA, rmA_eq a b i (by omega), shl64_nat (by omega) (by omega), shr64_nat (by omega), show (2 : Int) = ((2 : Nat) : Int) from rfl, tmod_nat, mul64_nat (by omega), xor64_nat (by omega) (by omega)]
    rfl
theorem nrR_lt (c : Nat) (hc : c < 32768) : ∀ i, i ≤ 7 → nrR c i < 32768
  | 0, _ => hc
  | i + 1, h => by
    have := nrR_lt c hc i (by omega)
    refine Nat.xor_lt_two_pow (n := 15) this ?_
    have h3 : 283 <<< (6 - i) < 32768 := by
      rw [Nat.shiftLeft_eq]
      have : 2 ^ (6 - i) ≤ 2 ^ 6 := Nat.pow_le_pow_right (by omega) (by omega)
      omega
    have : (283 <<< (6 - i)) * ((nrR c i >>> (14 - i)) % 2) ≤ (283 <<< (6 - i)) * 1 := Nat.mul_le_mul_left _ (by omega)
    show _ < 32768
    have e : (Nat.rec c (fun i ih => ih ^^^ ((283 <<< (6 - i)) * ((ih >>> (14 - i)) % 2))) i : Nat) = nrR c i := rfl
    rw [e]
    omega
theorem rmR_eq (c : Nat) (hc : c < 32768) : ∀ i, i ≤ 7 → rmR c i = (nrR c i : Nat)
  | 0, _ => rfl
  | i + 1, h => by
    have hl := nrR_lt c hc i (by omega)
    have h3 : 283 <<< (6 - i) < 32768 := by
      rw [Nat.shiftLeft_eq]
      have : 2 ^ (6 - i) ≤ 2 ^ 6 := Nat.pow_le_pow_right (by omega) (by omega)
      omega
    have h4 : (283 <<< (6 - i)) * ((nrR c i >>> (14 - i)) % 2) ≤ (283 <<< (6 - i)) * 1 := Nat.mul_le_mul_left _ (by omega)
    rw [rmR, rmR_eq c hc i (by omega), show (283 : Int) = ((283 : Nat) : Int) from rfl, shl64_nat (by omega) (by omega), shr64_nat (by omega), show (2 : Int) = ((2 : Nat) : Int) from rfl, tmod_nat, mul64_nat (by omega), xor64_nat (by omega) (by omega)]
    rfl
theorem rmul_eq (a b : BitVec 8) : rmul a b = BitVec.ofNat 8 (nrR (nrA a.toNat b.toNat 8) 7) := by
  unfold rmul
  rw [rmA_eq a b 8 (by omega), rmR_eq _ (nrA_lt _ _ a.isLt 8 (by omega)) 7 (by omega), BitVec.ofInt_natCast]
theorem nx_eq (a : BitVec 8) : (a <<< 1 ^^^ a >>> 7 * 27).toNat = nx a.toNat := by
  have h : ∀ x : Nat, nall (fun x => Nat.beq (((BitVec.ofNat 8 x) <<< 1 ^^^ (BitVec.ofNat 8 x) >>> 7 * 27).toNat) (nx x)) 256 = true := fun _ => by decide +kernel
  have := nall_get (h 0) a.toNat a.isLt
  have e : BitVec.ofNat 8 a.toNat = a := by simp
  simp only [e] at this
  exact Nat.eq_of_beq_eq_true this
theorem gmulL_eq : ∀ (k : Nat) (a b n : BitVec 8), (gmulL k a b n).toNat = ngm k a.toNat b.toNat n.toNat
  | 0, _, _, _ => rfl
  | k + 1, a, b, n => by
    rw [gmulL]
    have hs : ngm (k + 1) a.toNat b.toNat n.toNat = ngm k (nx a.toNat) (b.toNat / 2) (n.toNat ^^^ a.toNat * (b.toNat % 2)) := rfl
    split
    · rw [gmulL_eq k, hs, nx_eq]
      congr 1
      · have : b &&& 1 = BitVec.ofNat 8 (b.toNat % 2) := by
          apply BitVec.eq_of_toNat_eq
          simp only [BitVec.toNat_and, BitVec.toNat_ofNat]
          rw [show BitVec.toNat (1 : BitVec 8) = 2 ^ 1 - 1 from rfl, Nat.and_two_pow_sub_one_eq_mod]; omega
        rw [this]
        have h2 : b.toNat % 2 = 0 ∨ b.toNat % 2 = 1 := by omega
        rcases h2 with h2 | h2 <;> simp [h2]
    · rename_i h
      have : b = 0#8 := by
        apply BitVec.eq_of_toNat_eq
        rw [BitVec.lt_def] at h; simp at h ⊢; omega
      subst this
      have z : ∀ k a n, ngm k a 0 n = n := by
        intro k
        induction k with
        | zero => intro _ _; rfl
        | succ k ih => intro a n; show ngm k (nx a) (0 / 2) (n ^^^ a * (0 % 2)) = n; simp [ih]
      exact (z _ _ _).symm
theorem gmul_rmul (a b : BitVec 8) : gmul a b = rmul a b := by
  apply BitVec.eq_of_toNat_eq
  rw [rmul_eq]
  have := Nat.eq_of_beq_eq_true (nall_get (nall_get chk a.toNat a.isLt) b.toNat b.isLt)
  show (gmulL 8 a b 0).toNat = _
  rw [gmulL_eq, BitVec.toNat_ofNat]
  exact this
end Go.Vm
end
section
namespace Go.Vm
open Go.Proofs
set_option maxRecDepth 20000
def ginvL : Nat → BitVec 8 → BitVec 8 → BitVec 8
  | 0, n, _ => n
  | k + 1, n, s => ginvL k (gmul n (gmul s s)) (gmul s s)
def ginv (a : BitVec 8) : BitVec 8 := ginvL 7 1 a
theorem Inv_spec (a : BitVec 8) : PureFn Tryz.prog 154 [.u8 a] (.u8 (ginv a)) := by
  refine pure_of_vc (by kernel_rfl) (fn := Tryz.f154) (by kernel_rfl) Tryz.func154 rfl (by show 1 ≤ 16; decide) (by simp [lows, V.low]) (by simp [V.low]) (go_start ?_)
  simp only [go_sem, ↓reduceIte, Nat.reduceEqDiff, Nat.reduceLT, Int.reduceLE, Int.reduceLT, BitVec.reduceOfInt, reduceCtorEq, Tryz.ntmps154]
  refine go_loop (fun j s => ∃ (i : Nat) (n q : BitVec 8), i + j = 7 ∧ s = ⟨[(3, .u8 n), (4, .u8 q), (6, .i64 i)], []⟩ ∧ ginv a = ginvL j n q) ?_ ?_
  · exact start_mk 7 ⟨[(3, .u8 1), (4, .u8 a), (6, .i64 (0 : Nat))], []⟩ (by simp [St.get, lookS]) rfl (fun _ _ h => h) ⟨0, 1, a, by omega, rfl, rfl⟩
  · rintro j s ⟨i, n, q, hi, rfl, he⟩ _
    simp only [go_sem, ↓reduceIte, Nat.reduceEqDiff, Nat.reduceLT]
    split
    · refine goCall_pure0 (Mul_spec _ _) ?_
      simp only [go_sem, ↓reduceIte, Nat.reduceEqDiff, Nat.reduceLT]
      refine goCall_pure0 (Mul_spec _ _) ?_
      simp only [go_sem, ↓reduceIte, Nat.reduceEqDiff, Nat.reduceLT]
      obtain ⟨j, rfl⟩ : ∃ k, j = k + 1 := ⟨j - 1, by omega⟩
      refine again_mk j ⟨[(3, .u8 (gmul n (gmul q q))), (4, .u8 (gmul q q)), (6, .i64 (i + 1 : Nat))], []⟩ (by omega) ?_ rfl (fun _ _ h => h) ⟨i + 1, _, _, by omega, rfl, he⟩
      have : w64 ((i : Int) + 1) = ((i + 1 : Nat) : Int) := by rw [w64_of (by omega) (by omega)]; omega
      simp [St.get, lookS, this]
    · obtain rfl : j = 0 := by omega
      rw [he]; rfl
/-- In numbers. -/
def ninv (a : Nat) : Nat := (Nat.rec (fun n _ => n) (fun _ ih n s => ih (ngm 8 n (ngm 8 s s 0) 0) (ngm 8 s s 0)) 7 : Nat → Nat → Nat) 1 a
theorem gmul_ngm (a b : BitVec 8) : (gmul a b).toNat = ngm 8 a.toNat b.toNat 0 := gmulL_eq 8 a b 0
theorem ginvL_eq : ∀ (k : Nat) (n s : BitVec 8), (ginvL k n s).toNat = (Nat.rec (fun n _ => n) (fun _ ih n s => ih (ngm 8 n (ngm 8 s s 0) 0) (ngm 8 s s 0)) k : Nat → Nat → Nat) n.toNat s.toNat
  | 0, _, _ => rfl
  | k + 1, n, s => by
    rw [ginvL, ginvL_eq k, gmul_ngm, gmul_ngm]
theorem ginv_ninv (a : BitVec 8) : (ginv a).toNat = ninv a.toNat := ginvL_eq 7 1 a
theorem ninv_zero : Nat.beq (ninv 0) 0 = true := by decide +kernel
theorem ginv_zero : ginv 0 = 0 := by
  have h := ginv_ninv 0
  have e : (0 : BitVec 8).toNat = 0 := rfl
  rw [e, Nat.eq_of_beq_eq_true ninv_zero] at h
  exact BitVec.eq_of_toNat_eq (h.trans e.symm)
theorem ofInt8_nat (i : Nat) : BitVec.ofInt 8 (i : Int) = BitVec.ofNat 8 i := BitVec.ofInt_natCast 8 i
end Go.Vm
end
section
namespace Go.Vm
open Go.Proofs
set_option maxRecDepth 20000
def rot8 (x : BitVec 8) (k : Nat) : BitVec 8 := x <<< k ||| x >>> (8 - k)
theorem rot8_cnt (n : Int) : (BitVec.ofInt 64 n &&& 7#64).toNat = (n % 8).toNat := by
  rw [BitVec.toNat_and, BitVec.toNat_ofInt, show (7#64).toNat = 2 ^ 3 - 1 from rfl, Nat.and_two_pow_sub_one_eq_mod]
  omega
theorem Rot8_spec (x : BitVec 8) (n : Int) : PureFn Tryz.prog 155 [.u8 x, .i64 n] (.u8 (rot8 x (n % 8).toNat)) := by
  have e := rot8_cnt n
  have e2 : (8#64 - (BitVec.ofInt 64 n &&& 7#64)).toNat = 8 - (n % 8).toNat := by
    rw [BitVec.toNat_sub, e]
    have : (8#64).toNat = 8 := rfl
    rw [this]; omega
  refine pure_of_vc (by kernel_rfl) (fn := Tryz.f155) (by kernel_rfl) Tryz.func155 rfl (by show 2 ≤ 17; decide) (by simp [lows, V.low]) (by simp [V.low]) (go_start ?_)
  simp only [go_sem, ↓reduceIte, Nat.reduceEqDiff, Nat.reduceLT, Int.reduceLE, Int.reduceLT, BitVec.reduceOfInt, reduceCtorEq, Tryz.ntmps155, Tryz.results155, e, e2]
  rfl
def subL (b : BitVec 8) : Nat → BitVec 8
  | 0 => b ^^^ 99#8
  | i + 1 => subL b i ^^^ rot8 b (((i + 1 : Nat) : Int) % 8).toNat
def subC (a : BitVec 8) : BitVec 8 := subL (ginv a) 4
def backG (a : BitVec 8) : BitVec 8 := ginv (rot8 (a ^^^ 99#8) 1 ^^^ rot8 (a ^^^ 99#8) 3 ^^^ rot8 (a ^^^ 99#8) 6)
theorem Sub_spec (a : BitVec 8) : PureFn Tryz.prog 143 [.u8 a] (.u8 (subC a)) := by
  refine pure_of_vc (by kernel_rfl) (fn := Tryz.f143) (by kernel_rfl) Tryz.func143 rfl (by show 1 ≤ 21; decide) (by simp [lows, V.low]) (by simp [V.low]) (go_start ?_)
  simp only [go_sem, ↓reduceIte, Nat.reduceLT, Int.reduceLT, BitVec.reduceOfInt, reduceCtorEq, Tryz.ntmps143]
  refine goCall_pure0 (Inv_spec _) ?_
  simp only [go_sem, ↓reduceIte, Nat.reduceLT, Int.reduceLE, Int.reduceLT, BitVec.reduceOfInt]
  refine go_loop (fun j st => ∃ i : Nat, i + j = 4 ∧ st = ⟨[(3, .u8 (ginv a)), (4, .u8 (subL (ginv a) i)), (10, .i64 i)], []⟩) ?_ ?_
  · exact start_mk (4) ⟨[(3, .u8 (ginv a)), (4, .u8 (subL (ginv a) (0 : Nat))), (10, .i64 (0 : Nat))], []⟩ (by simp [St.get, lookS, subL]) rfl (fun _ _ h => h) ⟨0, by omega, rfl⟩
  rintro j st ⟨i, hi, rfl⟩ _
  simp only [go_sem, ↓reduceIte, Nat.reduceEqDiff, Nat.reduceLT]
  by_cases h0 : i < 4
  · have h0' : (i : Int) < 4 := by omega
    have hw : w64 ((i : Int) + 1) = ((i + 1 : Nat) : Int) := by rw [w64_of (by omega) (by omega)]; omega
    simp only [go_sem, ↓reduceIte, h0', hw]
    refine goCall_pure0 (Rot8_spec _ _) ?_
    simp only [go_sem, ↓reduceIte, Nat.reduceEqDiff, Nat.reduceLT]
    refine again_mk (j - 1) ⟨[(3, .u8 (ginv a)), (4, .u8 (subL (ginv a) (i + 1 : Nat))), (10, .i64 (i + 1 : Nat))], []⟩ (by omega) ?_ rfl (fun _ _ h => h) ⟨i + 1, by omega, rfl⟩
    have hw1 : w64 ((i : Int) + 1) = ((i + 1 : Nat) : Int) := by rw [w64_of (by omega) (by omega)]; omega
    simp [St.get, lookS, hw1, subL]
  · have h0' : ¬ (i : Int) < 4 := by omega
    simp only [go_sem, ↓reduceIte, h0']
    obtain rfl : i = 4 := by omega
    rfl
def affBit (b : BitVec 8) (i : Nat) : Int :=
  [0, 4, 5, 6, 7].foldl (fun n k => w64 (n + shr64 b.toNat ((w64 ((i : Int) + k)).tmod 8).toNat)) (shr64 99 i)
def affN (b : BitVec 8) : Nat → Int
  | 0 => 0
  | i + 1 => w64 (affN b i + shl64 ((affBit b i).tmod 2) i)
def aff (b : BitVec 8) : BitVec 8 := BitVec.ofInt 8 (affN b 8)
set_option maxRecDepth 20000 in
theorem affine_spec (b : BitVec 8) : PureFn Tryz.prog 77 [.u8 b] (.u8 (aff b)) := by
  refine pure_of_vc (by kernel_rfl) (fn := Tryz.f77) (by kernel_rfl) Tryz.func77 rfl (by show 1 ≤ 38; decide) (by simp [lows, V.low]) (by simp [V.low]) (go_start ?_)
  simp only [go_sem, Nat.reduceLT, Int.reduceLT, BitVec.reduceOfInt, Tryz.ntmps77]
  refine go_loop (fun j st => ∃ i : Nat, i + j = 8 ∧ st = ⟨[(0, .u8 b), (3, .i64 (affN b i)), (8, .i64 i)], []⟩) ?_ ?_
  · exact start_mk (8) ⟨[(0, .u8 b), (3, .i64 (affN b (0 : Nat))), (8, .i64 (0 : Nat))], []⟩ (by simp [St.get, lookS, affN]) rfl (fun _ _ h => h) ⟨0, by omega, rfl⟩
  rintro j st ⟨i, hi, rfl⟩ _
  simp only [go_sem, ↓reduceIte, Nat.reduceEqDiff, Nat.reduceLT, Nat.reduceLeDiff, Nat.reduceAdd, reduceCtorEq]
  by_cases h0 : i < 8
  · have h0' : (i : Int) < 8 := by omega
    have h1' : (0 : Int) ≤ (i : Int) := by omega
    simp only [go_sem, ↓reduceIte, h0', h1']
    refine go_unroll 6 ?_
    simp only [go_sem, ↓reduceIte, Nat.reduceEqDiff, Nat.reduceLT, Nat.reduceAdd, Nat.reduceSub, Int.reduceLE, Int.reduceLT, Int.reduceToNat, Int.reduceAdd, Int.reduceEq, Int.reduceNeg, reduceCtorEq, h1']
    have nn : ∀ k : Int, 0 ≤ k → k ≤ 7 → 0 ≤ (w64 ((i : Int) + k)).tmod 8 := fun k h1 h2 => by
      rw [w64_of (by omega) (by omega)]; exact Int.tmod_nonneg _ (by omega)
    refine ⟨nn 0 (by decide) (by decide), nn 4 (by decide) (by decide), nn 5 (by decide) (by decide), nn 6 (by decide) (by decide), nn 7 (by decide) (by decide), ?_⟩
    refine again_ren (j - 1) ⟨[(0, .u8 b), (3, .i64 (affN b (i + 1))), (8, .i64 (i + 1 : Nat))], []⟩ [] (by omega) rfl (by decide) rfl (by decide) ?_ trivial ⟨i + 1, by omega, rfl⟩
    have hw1 : w64 ((i : Int) + 1) = ((i + 1 : Nat) : Int) := by rw [w64_of (by omega) (by omega)]; omega
    simp [slotsOk, V.ren, V.low, St.get, lookS, hw1, affN, affBit]
  · have h0' : ¬ (i : Int) < 8 := by omega
    simp only [go_sem, ↓reduceIte, h0']
    obtain rfl : i = 8 := by omega
    rfl
theorem aff_sub : ∀ x : Nat, nall (fun x => Nat.beq (aff (BitVec.ofNat 8 x)).toNat (subL (BitVec.ofNat 8 x) 4).toNat) 256 = true := fun _ => by decide +kernel
theorem aff_eq (b : BitVec 8) : aff b = subL b 4 := by
  have := nall_get (aff_sub 0) b.toNat b.isLt
  have e : BitVec.ofNat 8 b.toNat = b := by simp
  simp only [e] at this
  exact BitVec.eq_of_toNat_eq (Nat.eq_of_beq_eq_true this)
/-- In numbers: what a byte stands for, and back. -/
def nrot (x k : Nat) : Nat := (x <<< k ||| x >>> (8 - k)) % 256
def nsub (b : Nat) : Nat := (((b ^^^ 99) ^^^ nrot b 1) ^^^ nrot b 2) ^^^ nrot b 3 ^^^ nrot b 4
def nback (a : Nat) : Nat := ninv (nrot (a ^^^ 99) 1 ^^^ nrot (a ^^^ 99) 3 ^^^ nrot (a ^^^ 99) 6)
end Go.Vm
end
section
namespace Go.Vm
open Go.Proofs
set_option maxRecDepth 20000
/-- The table of the code, i bytes set in. -/
def mkT : Nat → List (BitVec 8)
  | 0 => List.replicate 512 0#8
  | i + 1 => ((mkT i).set i (subC (BitVec.ofNat 8 i))).set (256 + (subC (BitVec.ofNat 8 i)).toNat) (BitVec.ofNat 8 i)
theorem mkT_length (i : Nat) : (mkT i).length = 512 := by
  induction i with
  | zero => rw [mkT, List.length_replicate]
  | succ i ih => rw [mkT, List.length_set, List.length_set, ih]
theorem getD_set_ne8 {l : List (BitVec 8)} {i j : Nat} {x : BitVec 8} (h : i ≠ j) : (l.set i x).getD j 0 = l.getD j 0 := by
  rw [List.getD_eq_getElem?_getD, List.getElem?_set_ne h, ← List.getD_eq_getElem?_getD]
theorem getD_set_eq8 {l : List (BitVec 8)} {i : Nat} {x : BitVec 8} (h : i < l.length) : (l.set i x).getD i 0 = x := by
  rw [List.getD_eq_getElem?_getD, List.getElem?_set_self h]; rfl
theorem mkT_sub (i : Nat) (hi : i ≤ 256) : ∀ b : BitVec 8, b.toNat < i → (mkT i).getD b.toNat 0 = subC b := by
  induction i with
  | zero => intro b h; omega
  | succ i ih =>
    intro b h
    have hl := mkT_length i
    rw [mkT, getD_set_ne8 (by have := b.isLt; omega)]
    by_cases e : b.toNat = i
    · have hb : BitVec.ofNat 8 i = b := by rw [← e]; simp
      rw [e, getD_set_eq8 (by omega), hb]
    · rw [getD_set_ne8 (by omega), ih (by omega) b (by omega)]
abbrev T512 : List (BitVec 8) := mkT 256
theorem T_sub (b : BitVec 8) : (mkT 256).getD b.toNat 0 = subC b := mkT_sub 256 (Nat.le_refl _) b b.isLt
theorem made_spec : Spec0 Tryz.prog 138 [] [] (.ptr 0 0) [some ⟨false, (mkT 256).map .u8⟩] := by
  refine spec0_of_vc (by kernel_rfl) (fn := Tryz.f138) Tryz.func138 rfl (by show 0 ≤ 27; decide) (go_start ?_)
  simp only [go_sem, ↓reduceIte, Nat.reduceLT, Tryz.ntmps138]
  refine go_loop (fun ji st => ∃ i : Nat, i + ji = 256 ∧ st = ⟨[(1, .ptr 0 0), (6, .i64 i)], [some ⟨false, (mkT i).map .u8⟩]⟩) ?_ ?_
  · exact start_mk (256) ⟨[(1, .ptr 0 0), (6, .i64 (0 : Nat))], [some ⟨false, (mkT (0 : Nat)).map .u8⟩]⟩ (by simp [St.get, lookS, -List.map_set, -List.map_map]) rfl (fun _ _ h => h) ⟨0, by omega, rfl⟩
  rintro ji st ⟨i, hi, rfl⟩ _
  simp only [go_sem, ↓reduceIte, Nat.reduceEqDiff, Nat.reduceLT]
  have hl := mkT_length i
  by_cases h0 : i < 256
  · have h0' : (i : Int) < 256 := by omega
    have hlt := (subC (BitVec.ofNat 8 i)).isLt
    have hlt' : ((subC (BitVec.ofNat 8 i)).toNat : Int) < 256 := by omega
    have hz : (0 : Int) ≤ ((subC (BitVec.ofNat 8 i)).toNat : Int) := by omega
    have hst : ((mkT i).set i (subC (BitVec.ofNat 8 i))).set (256 + (subC (BitVec.ofNat 8 i)).toNat) (BitVec.ofNat 8 i) = mkT (i + 1) := rfl
    have g1 : i < 512 := by omega
    have g2 : 256 + (subC (BitVec.ofNat 8 i)).toNat < 512 := by omega
    have hls : ∀ x, ((mkT i).set i x).length = 512 := fun x => by rw [List.length_set, hl]
    simp only [go_sem, ↓reduceIte, h0', ofInt8_nat]
    refine goCall_pure0 (Sub_spec _) ?_
    simp only [go_sem, ↓reduceIte, Nat.reduceEqDiff, Nat.reduceLT, Nat.reduceLeDiff, reduceCtorEq, ofInt8_nat, h0', hlt', hz, hl, hls, hst]
    refine ⟨by omega, by omega, by omega, by kernel_rfl, ?_⟩
    refine again_mk (ji - 1) ⟨[(1, .ptr 0 0), (6, .i64 (i + 1 : Nat))], [some ⟨false, (mkT (i + 1 : Nat)).map .u8⟩]⟩ (by omega) ?_ rfl (fun _ _ h => h) ⟨i + 1, by omega, rfl⟩
    have hw1 : w64 ((i : Int) + 1) = ((i + 1 : Nat) : Int) := by rw [w64_of (by omega) (by omega)]; omega
    simp [St.get, lookS, hw1, -List.map_set, -List.map_map]
  · obtain rfl : i = 256 := by omega
    have h0' : ¬ ((256 : Nat) : Int) < 256 := by omega
    simp only [go_sem, ↓reduceIte, Int.reduceLT]
    exact Fin.ren [0] (by simp) (by simp) (by rfl) (by decide) (by simp [-List.map_map, -List.map_set]) (by simp [-List.map_map, -List.map_set])
/-! The powers of 3. -/
def pwL : List Nat := [1, 3, 5, 15, 17, 51, 85, 255, 26, 46, 114, 150, 161, 248, 19, 53, 95, 225, 56, 72, 216, 115, 149, 164, 247, 2, 6, 10, 30, 34, 102, 170, 229, 52, 92, 228, 55, 89, 235, 38, 106, 190, 217, 112, 144, 171, 230, 49, 83, 245, 4, 12, 20, 60, 68, 204, 79, 209, 104, 184, 211, 110, 178, 205, 76, 212, 103, 169, 224, 59, 77, 215, 98, 166, 241, 8, 24, 40, 120, 136, 131, 158, 185, 208, 107, 189, 220, 127, 129, 152, 179, 206, 73, 219, 118, 154, 181, 196, 87, 249, 16, 48, 80, 240, 11, 29, 39, 105, 187, 214, 97, 163, 254, 25, 43, 125, 135, 146, 173, 236, 47, 113, 147, 174, 233, 32, 96, 160, 251, 22, 58, 78, 210, 109, 183, 194, 93, 231, 50, 86, 250, 21, 63, 65, 195, 94, 226, 61, 71, 201, 64, 192, 91, 237, 44, 116, 156, 191, 218, 117, 159, 186, 213, 100, 172, 239, 42, 126, 130, 157, 188, 223, 122, 142, 137, 128, 155, 182, 193, 88, 232, 35, 101, 175, 234, 37, 111, 177, 200, 67, 197, 84, 252, 31, 33, 99, 165, 244, 7, 9, 27, 45, 119, 153, 176, 203, 70, 202, 69, 207, 74, 222, 121, 139, 134, 145, 168, 227, 62, 66, 198, 81, 243, 14, 18, 54, 90, 238, 41, 123, 141, 140, 143, 138, 133, 148, 167, 242, 13, 23, 57, 75, 221, 124, 132, 151, 162, 253, 28, 36, 108, 180, 199, 82, 246]
def ixL : List Nat := [0, 0, 25, 1, 50, 2, 26, 198, 75, 199, 27, 104, 51, 238, 223, 3, 100, 4, 224, 14, 52, 141, 129, 239, 76, 113, 8, 200, 248, 105, 28, 193, 125, 194, 29, 181, 249, 185, 39, 106, 77, 228, 166, 114, 154, 201, 9, 120, 101, 47, 138, 5, 33, 15, 225, 36, 18, 240, 130, 69, 53, 147, 218, 142, 150, 143, 219, 189, 54, 208, 206, 148, 19, 92, 210, 241, 64, 70, 131, 56, 102, 221, 253, 48, 191, 6, 139, 98, 179, 37, 226, 152, 34, 136, 145, 16, 126, 110, 72, 195, 163, 182, 30, 66, 58, 107, 40, 84, 250, 133, 61, 186, 43, 121, 10, 21, 155, 159, 94, 202, 78, 212, 172, 229, 243, 115, 167, 87, 175, 88, 168, 80, 244, 234, 214, 116, 79, 174, 233, 213, 231, 230, 173, 232, 44, 215, 117, 122, 235, 22, 11, 245, 89, 203, 95, 176, 156, 169, 81, 160, 127, 12, 246, 111, 23, 196, 73, 236, 216, 67, 31, 45, 164, 118, 123, 183, 204, 187, 62, 90, 251, 96, 177, 134, 59, 82, 161, 108, 170, 85, 41, 157, 151, 178, 135, 144, 97, 190, 220, 252, 188, 149, 207, 205, 55, 63, 91, 209, 83, 57, 132, 60, 65, 162, 109, 71, 20, 42, 158, 93, 86, 242, 211, 171, 68, 17, 146, 217, 35, 32, 46, 137, 180, 124, 184, 38, 119, 153, 227, 165, 103, 74, 237, 222, 197, 49, 254, 24, 13, 99, 140, 128, 192, 247, 112, 7]
theorem pwL_chk : and (nall (fun i => or (Nat.beq i 254) (Nat.beq (ngm 8 (pwL.getD i 0) 3 0) (pwL.getD (i + 1) 0))) 255) (and (nall (fun i => Nat.beq (ninv (pwL.getD i 0)) (pwL.getD ((255 - i) % 255) 0)) 255) (nall (fun b => or (Nat.beq b 0) (and (Nat.blt (ixL.getD b 0) 255) (Nat.beq (pwL.getD (ixL.getD b 0) 0) b))) 256)) = true := by decide +kernel
def pow3 (i : Nat) : BitVec 8 := BitVec.ofNat 8 (pwL.getD i 0)
theorem pwL_lt : nall (fun i => Nat.blt (pwL.getD i 0) 256) 255 = true := by decide +kernel
theorem pwL_pos : nall (fun i => Nat.blt 0 (pwL.getD i 0)) 255 = true := by decide +kernel
theorem pow3_nat (i : Nat) (h : i < 255) : (pow3 i).toNat = pwL.getD i 0 := by
  have := nall_get pwL_lt i h
  have h2 : pwL.getD i 0 < 256 := by
    rw [show Nat.blt (pwL.getD i 0) 256 = Nat.ble (pwL.getD i 0 + 1) 256 from rfl, Nat.ble_eq] at this; omega
  unfold pow3
  rw [BitVec.toNat_ofNat]; omega
theorem pow3_next (i : Nat) (h : i < 254) : rmul (pow3 i) 3#8 = pow3 (i + 1) := by
  have hc := pwL_chk
  rw [Bool.and_eq_true] at hc
  have h1 := nall_get hc.1 i (by omega)
  rw [Bool.or_eq_true] at h1
  rcases h1 with h1 | h1
  · have := Nat.eq_of_beq_eq_true h1; omega
  · rw [← gmul_rmul]
    apply BitVec.eq_of_toNat_eq
    rw [gmul_ngm, pow3_nat i (by omega), pow3_nat (i + 1) (by omega)]
    exact Nat.eq_of_beq_eq_true h1
theorem pow3_inv (i : Nat) (h : i < 255) : ginv (pow3 i) = pow3 ((255 - i) % 255) := by
  have hc := pwL_chk
  rw [Bool.and_eq_true, Bool.and_eq_true] at hc
  have h1 := nall_get hc.2.1 i h
  apply BitVec.eq_of_toNat_eq
  rw [ginv_ninv, pow3_nat i h, pow3_nat _ (Nat.mod_lt _ (by omega))]
  exact Nat.eq_of_beq_eq_true h1
theorem pow3_all (b : BitVec 8) (h : b ≠ 0#8) : ∃ i, i < 255 ∧ pow3 i = b := by
  have hc := pwL_chk
  rw [Bool.and_eq_true, Bool.and_eq_true] at hc
  have h1 := nall_get hc.2.2 b.toNat b.isLt
  rw [Bool.or_eq_true, Bool.and_eq_true] at h1
  rcases h1 with h1 | ⟨h1, h2⟩
  · exact absurd (BitVec.eq_of_toNat_eq (Nat.eq_of_beq_eq_true h1)) h
  · rw [show Nat.blt (ixL.getD b.toNat 0) 255 = Nat.ble (ixL.getD b.toNat 0 + 1) 255 from rfl, Nat.ble_eq] at h1
    refine ⟨ixL.getD b.toNat 0, by omega, ?_⟩
    unfold pow3
    rw [Nat.eq_of_beq_eq_true h2]; simp
/-- The reference's table, i powers set in. -/
def outS : Nat → List (BitVec 8)
  | 0 => (List.replicate 256 0#8).set 0 (aff 0)
  | i + 1 => (outS i).set (pow3 i).toNat (aff (pow3 ((255 - i) % 255)))
theorem outS_length (i : Nat) : (outS i).length = 256 := by
  induction i with
  | zero => rw [outS, List.length_set, List.length_replicate]
  | succ i ih => rw [outS, List.length_set, ih]
theorem outS_zero (i : Nat) : i ≤ 255 → (outS i).getD 0 0 = subC 0 := by
  induction i with
  | zero =>
    intro _
    rw [outS, getD_set_eq8 (by rw [List.length_replicate]; omega), aff_eq]
    unfold subC; rw [ginv_zero]
  | succ i ih =>
    intro h
    have hne : (pow3 i).toNat ≠ 0 := by
      have := nall_get pwL_pos i (by omega)
      rw [pow3_nat i (by omega)]
      rw [show Nat.blt 0 (pwL.getD i 0) = Nat.ble (0 + 1) (pwL.getD i 0) from rfl, Nat.ble_eq] at this; omega
    rw [outS, getD_set_ne8 hne, ih (by omega)]
theorem outS_at (n : Nat) (hn : n ≤ 255) : ∀ i, i < n → (outS n).getD (pow3 i).toNat 0 = subC (pow3 i) := by
  induction n with
  | zero => intro i h; omega
  | succ n ih =>
    intro i h
    have hl := outS_length n
    rw [outS]
    by_cases e : pow3 n = pow3 i
    · rw [e, getD_set_eq8 (by rw [hl]; exact (pow3 i).isLt), ← pow3_inv n (by omega), aff_eq, e]; rfl
    · have hne : (pow3 n).toNat ≠ (pow3 i).toNat := fun he => e (BitVec.eq_of_toNat_eq he)
      rw [getD_set_ne8 hne]
      by_cases e2 : i = n
      · exact absurd (by rw [e2]) e
      · exact ih (by omega) i (by omega)
theorem S_sub (b : BitVec 8) : (outS 255).getD b.toNat 0 = subC b := by
  by_cases h : b = 0#8
  · subst h; exact outS_zero 255 (Nat.le_refl _)
  · obtain ⟨i, h1, h2⟩ := pow3_all b h
    rw [← h2]; exact outS_at 255 (Nat.le_refl _) i h1
end Go.Vm
end
