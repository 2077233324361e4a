/- A part of the proof: laws of a small machine of values, or what one function answers, proved against the model; no conditions beyond those in each theorem. -/
import Derived.Shelf.Strings.OnBuilder
import Derived.Test.YtdpeejgmfioglaaGreatTypesToChaR
import Derived.Test.YtdpeejgmfioglaaGreatShelfRepToAeA
import Derived.Test.YtdpeejgmfioglaaGreatChaVToPoY
set_option linter.unusedVariables false
set_option linter.unusedSimpArgs false
set_option linter.unusedSectionVars false
section
namespace Go.Vm
open Go.Proofs Go.Shelf
def shelf_lays156_ren : Go.Shelf.Ren := ⟨fun | 156 => 78 | 165 => 61 | 166 => 62 | 169 => 64 | 240 => 75 | 241 => 76 | 276 => 81 | 277 => 82 | n => n, fun | 31 => 63 | 9 => 9 | 3 => 3 | 4 => 4 | 0 => 0 | 20 => 20 | 72 => 107 | 76 => 111 | 70 => 105 | 37 => 88 | 75 => 110 | 127 => 125 | 164 => 131 | 5 => 5 | 80 => 113 | n => n, fun | n => n⟩
theorem shelf_lays156 : Go.Proofs.Lays.n156 Tryz.prog shelf_lays156_ren := {
  mixed := by kernel_rfl
  f156 := Tryz.func78.trans (congrArg some (by kernel_rfl))
  f165 := Tryz.func61.trans (congrArg some (by kernel_rfl))
  f166 := Tryz.func62.trans (congrArg some (by kernel_rfl))
  f169 := Tryz.func64.trans (congrArg some (by kernel_rfl))
  f240 := Tryz.func75.trans (congrArg some (by kernel_rfl))
  f241 := Tryz.func76.trans (congrArg some (by kernel_rfl))
  f276 := Tryz.func81.trans (congrArg some (by kernel_rfl))
  f277 := Tryz.func82.trans (congrArg some (by kernel_rfl))
  t0 := Tryz.underlying0
  a0 := Tryz.isAgg0
  z0 := Tryz.sizeOf0
  v0 := Tryz.zeroValue0
  t3 := Tryz.underlying3
  a3 := Tryz.isAgg3
  z3 := Tryz.sizeOf3
  v3 := Tryz.zeroValue3
  t4 := Tryz.underlying4
  a4 := Tryz.isAgg4
  z4 := Tryz.sizeOf4
  v4 := Tryz.zeroValue4
  t9 := Tryz.underlying9
  a9 := Tryz.isAgg9
  z9 := Tryz.sizeOf9
  v9 := Tryz.zeroValue9
  t20 := Tryz.underlying20
  a20 := Tryz.isAgg20
  z20 := Tryz.sizeOf20
  v20 := Tryz.zeroValue20
  t31 := Tryz.underlying63
  a31 := Tryz.isAgg63
  z31 := Tryz.sizeOf63
  v31 := Tryz.zeroValue63
  t37 := Tryz.underlying88
  a37 := Tryz.isAgg88
  z37 := Tryz.sizeOf88
  v37 := Tryz.zeroValue88
  t70 := Tryz.underlying105
  a70 := Tryz.isAgg105
  z70 := Tryz.sizeOf105
  v70 := Tryz.zeroValue105
  t72 := Tryz.underlying107
  a72 := Tryz.isAgg107
  z72 := Tryz.sizeOf107
  v72 := Tryz.zeroValue107
  t75 := Tryz.underlying110
  a75 := Tryz.isAgg110
  z75 := Tryz.sizeOf110
  v75 := Tryz.zeroValue110
  t76 := Tryz.underlying111
  a76 := Tryz.isAgg111
  z76 := Tryz.sizeOf111
  v76 := Tryz.zeroValue111
  t127 := Tryz.underlying125
  a127 := Tryz.isAgg125
  z127 := Tryz.sizeOf125
  v127 := Tryz.zeroValue125
  t164 := Tryz.underlying131
  a164 := Tryz.isAgg131
  z164 := Tryz.sizeOf131
  v164 := Tryz.zeroValue131 }
theorem shelf_Builder_Extra_156 : Builder.Extra Tryz.prog shelf_lays156_ren := {
  sizeBuilder := by kernel_rfl
  liesBuilder := by kernel_rfl
  t5 := Tryz.underlying5
  a5 := Tryz.isAgg5
  z5 := Tryz.sizeOf5
  v5 := Tryz.zeroValue5
  infoByte := by kernel_rfl
  cellsByte := by kernel_rfl
  sizeByte := by kernel_rfl
  neB5 := by decide }
open Go.RowKit in
open Go.RowKit in
theorem shelf_strings_Join (bk o c : Nat) (xs : List ByteArray) (sep : ByteArray) (w : World) (hcells : ∀ (j : Nat) x, xs[j]? = some x → w.cell? ⟨bk, o + j, none⟩ = some (.string x)) (hbk : bk < w.heap.size) (hN : xs.length ≤ 140737488355328) (hcap : xs.length ≤ c) (hlen : (Lib.join (xs.map (·.data.toList)) sep.data.toList).length ≤ 140737488355328) :
    Calls Tryz.prog 78 #[.slice (some ⟨bk, o, none⟩) xs.length c, .string sep] w fun e w' => e = .returned (.string ⟨(Lib.join (xs.map (·.data.toList)) sep.data.toList).toArray⟩) ∧ Below w.heap.size w w' := Any.strings_Join shelf_lays156 shelf_Builder_Extra_156 bk o c xs sep w hcells hbk hN hcap hlen
end Go.Vm
end
section
namespace Go.Vm
open Go.Proofs Go.RowKit
/-- A library function that only reads what it is handed. -/
theorem spec0_of_below {P : Program} {f : FuncId} {args : List V} {v : V} {h : List (Option Blk)} (hv : v.low 0)
    (hs : ∀ (ρ : Nat → Nat × Nat) (w : World) (rargs : Array Value), VRs ρ (· < h.length) w args rargs.toList → MemRel ρ (· < h.length) (getH h) w → Calls P f rargs w fun e w' => ∃ r, e = .returned r ∧ VR (fun _ => (0, 0)) (fun _ => False) w' v r ∧ Below w.heap.size w w') : Spec0 P f args h v h := by
  intro ρ w rargs hr hm
  refine (hs ρ w rargs hr hm).mono ?_
  rintro e w' ⟨r, rfl, h1, h2⟩
  have hcell : ∀ p : Addr, p.block < w.heap.size → w'.cell? p = w.cell? p := fun p hp => h2.cell hp
  have hfroz : ∀ p : Addr, p.block < w.heap.size → w'.frozen? p = w.frozen? p := fun p hp => h2.frozen hp
  have hl : Lasts w w' := fun b o hs => by
    have hlt : b < w.heap.size := by
      obtain ⟨u, hu⟩ := Option.isSome_iff_exists.1 hs
      exact World.block_lt_of_cell? (a := ⟨b, o, none⟩) w hu
    exact ⟨by rw [hcell ⟨b, o, none⟩ hlt]; exact hs, fun hf => by rw [hfroz ⟨b, o, none⟩ hlt]; exact hf⟩
  refine ⟨r, ρ, rfl, h1.mono (fun b hb => hb.elim) (fun b hb => hb.elim) (Lasts.refl _), ?_, Nat.le_refl _, fun _ _ => rfl, ?_⟩
  · exact ⟨hm.has, fun b B hB => Nat.lt_of_lt_of_le (hm.lt b B hB) h2.size, hm.inj, fun b B hB i u hu => by
      obtain ⟨r, g1, g2⟩ := hm.cell b B hB i u hu
      exact ⟨r, by rw [hcell _ (hm.lt b B hB)]; exact g1, g2.mono (fun _ _ => rfl) (fun _ h => h) hl⟩,
      fun b B hB ho i hi => by rw [hfroz _ (hm.lt b B hB)]; exact hm.free b B hB ho i hi⟩
  · exact ⟨h2.os, h2.output, h2.tape, h2.size, fun r hr _ => h2.block r hr, hl, fun b B hB ho => .inl ⟨b, B, hB, ho, rfl⟩⟩
theorem join_flat (l : List (List UInt8)) : Lib.join l [] = l.flatten := by
  unfold Lib.join List.intercalate
  have key : ∀ (l : List (List UInt8)), (l.intersperse []).flatten = l.flatten := by
    intro l
    induction l with
    | nil => rfl
    | cons x l ih =>
      cases l with
      | nil => rfl
      | cons y l => rw [List.intersperse_cons_cons, List.flatten_cons, List.flatten_cons, ih, List.nil_append, List.flatten_cons (l := x)]
  exact key l
theorem flat_of (ws : List (List (BitVec 8))) : (((ws.map strOf).map (·.data.toList)).flatten).map UInt8.toBitVec = ws.flatten := by
  induction ws with
  | nil => rfl
  | cons x l ih =>
    rw [List.map_cons, List.map_cons, List.flatten_cons, List.map_append, ih, List.flatten_cons]
    congr 1
    exact bytesOf_strOf x
end Go.Vm
end
section
namespace Go.Vm
open Go.Proofs
set_option maxRecDepth 20000
/-- The powers, as the reference makes them. -/
def prI : Nat → BitVec 8
  | 0 => 1#8
  | i + 1 => rmul (prI i) 3#8
theorem prI_eq (i : Nat) (h : i < 255) : prI i = pow3 i := by
  induction i with
  | zero => decide
  | succ i ih => rw [prI, ih (by omega), pow3_next i (by omega)]
def pwS : Nat → List (BitVec 8)
  | 0 => []
  | i + 1 => pwS i ++ [prI i]
theorem pwS_length (i : Nat) : (pwS i).length = i := by
  induction i with
  | zero => rfl
  | succ i ih => rw [pwS, List.length_append, ih]; rfl
theorem pwS_getD (n : Nat) : ∀ i, i < n → n ≤ 255 → (pwS n).getD i 0 = pow3 i := by
  induction n with
  | zero => intro i h; omega
  | succ n ih =>
    intro i h hn
    have hl := pwS_length n
    rw [pwS]
    by_cases h0 : i < n
    · rw [List.getD_eq_getElem?_getD, List.getElem?_append_left (by omega), ← List.getD_eq_getElem?_getD, ih i h0 (by omega)]
    · obtain rfl : i = n := by omega
      rw [List.getD_eq_getElem?_getD, List.getElem?_append_right (by omega), hl, Nat.sub_self, ← prI_eq i (by omega)]; rfl
theorem vrep8 (k : Nat) : vrep [V.u8 0#8] k = (List.replicate k 0#8).map V.u8 := by
  induction k with
  | zero => rfl
  | succ k ih => rw [vrep, ih]; rfl
theorem subs_spec : Spec0 Tryz.prog 65 [] [] (.slice 0 0 256 1) [some ⟨false, (outS 255).map .u8⟩] := by
  have hz : (List.replicate 256 0#8).length = 256 := List.length_replicate
  refine spec0_of_vc (by kernel_rfl) (fn := Tryz.f65) Tryz.func65 rfl (by show 0 ≤ 38; decide) (go_start ?_)
  simp only [go_sem, ↓reduceIte, Nat.reduceLT, Int.reduceLE, Int.reduceLT, Int.reduceToNat, Int.reduceMul, BitVec.reduceOfInt, Tryz.ntmps65, vrep8]
  refine go_loop (fun j st => ∃ i : Nat, i + j = 255 ∧ ((i = 0 ∧ st = ⟨[(1, .slice 0 0 256 1), (2, .nilSlice), (3, .u8 (prI 0)), (7, .i64 (0 : Nat))], [some ⟨false, (List.replicate 256 0#8).map .u8⟩]⟩) ∨
    (0 < i ∧ st = ⟨[(1, .slice 0 0 256 1), (2, .slice 1 0 i 1), (3, .u8 (prI i)), (7, .i64 i)], [some ⟨false, (List.replicate 256 0#8).map .u8⟩, some ⟨false, (pwS i).map .u8⟩]⟩))) ?_ ?_
  · exact start_mk 255 ⟨[(1, .slice 0 0 256 1), (2, .nilSlice), (3, .u8 (prI 0)), (7, .i64 (0 : Nat))], [some ⟨false, (List.replicate 256 0#8).map .u8⟩]⟩ (by simp [St.get, lookS, prI]) rfl (fun _ _ h => h) ⟨0, by omega, .inl ⟨rfl, rfl⟩⟩
  rintro j st ⟨i, hi, hcase⟩ _
  by_cases h0 : i < 255
  · have h0' : (i : Int) < 255 := by omega
    have hw1 : w64 ((i : Int) + 1) = ((i + 1 : Nat) : Int) := by rw [w64_of (by omega) (by omega)]; omega
    have hl := pwS_length i
    have hs : pwS (i + 1) = pwS i ++ [prI i] := rfl
    have hn : prI (i + 1) = rmul (prI i) 3#8 := rfl
    rcases hcase with ⟨rfl, rfl⟩ | ⟨hi0, rfl⟩
    · simp only [go_sem, ↓reduceIte, Nat.reduceEqDiff, Nat.reduceLT, Nat.reduceLeDiff, Nat.reduceAdd, Nat.reduceDiv, Int.reduceLE, Int.reduceLT, BitVec.reduceOfInt]
      refine goCall_pure0 (RMul_spec _ _) ?_
      simp only [go_sem, ↓reduceIte, Nat.reduceEqDiff, Nat.reduceLT, Int.reduceLE, Int.reduceAdd, Int.reduceNeg]
      refine again_ren (j - 1) ⟨[(1, .slice 0 0 256 1), (2, .slice 1 0 1 1), (3, .u8 (prI 1)), (7, .i64 (1 : Nat))], [some ⟨false, (List.replicate 256 0#8).map .u8⟩, some ⟨false, (pwS 1).map .u8⟩]⟩ [0, 2] (by omega) rfl (by simp) rfl (by decide) ?_ ?_ ⟨1, by omega, .inr ⟨by omega, rfl⟩⟩
      · simp [slotsOk, St.get, lookS, prI, pwS, -List.map_map, -List.map_set]
      · simp [pwS, prI, -List.map_map, -List.map_set]
    · simp only [go_sem, ↓reduceIte, Nat.reduceEqDiff, Nat.reduceLT, Nat.reduceLeDiff, Nat.reduceAdd, Int.reduceLE, Int.reduceLT, BitVec.reduceOfInt, h0', hl, List.take_of_length_le]
      refine ⟨by omega, ?_⟩
      refine goCall_pure0 (RMul_spec _ _) ?_
      simp only [go_sem, ↓reduceIte, Nat.reduceEqDiff, Nat.reduceLT, ← hn, ← hs, hw1]
      refine again_ren (j - 1) ⟨[(1, .slice 0 0 256 1), (2, .slice 1 0 (i + 1) 1), (3, .u8 (prI (i + 1))), (7, .i64 (i + 1 : Nat))], [some ⟨false, (List.replicate 256 0#8).map .u8⟩, some ⟨false, (pwS (i + 1)).map .u8⟩]⟩ [0, 3] (by omega) rfl (by simp) rfl (by decide) ?_ ?_ ⟨i + 1, by omega, .inr ⟨by omega, rfl⟩⟩
      · simp [slotsOk, St.get, lookS, -List.map_map, -List.map_set]
      · simp [-List.map_map, -List.map_set]
  · obtain rfl : i = 255 := by omega
    have h0' : ¬ ((255 : Nat) : Int) < 255 := by omega
    rcases hcase with ⟨h, _⟩ | ⟨_, rfl⟩
    · omega
    · have hl := pwS_length 255
      have hg := pwS_getD 255
      simp only [go_sem, ↓reduceIte, Nat.reduceEqDiff, Nat.reduceLT, Int.reduceLT, BitVec.reduceOfInt]
      refine goCall_pure0 (affine_spec _) ?_
      simp only [go_sem, ↓reduceIte, Nat.reduceEqDiff, Nat.reduceLT, Nat.reduceLeDiff, Int.reduceLT, Int.reduceToNat, hz]
      have ho0 : (List.replicate 256 0#8).set 0 (aff 0#8) = outS 0 := rfl
      simp only [ho0]
      refine go_loop (fun jq st => ∃ q : Nat, q + jq = 255 ∧ st = ⟨[(1, .slice 0 0 256 1), (2, .slice 1 0 255 1), (19, .slice 1 0 255 1), (20, .i64 255), (21, .i64 q)], [some ⟨false, (outS q).map .u8⟩, some ⟨false, (pwS 255).map .u8⟩]⟩) ?_ ?_
      · exact start_mk (255) ⟨[(1, .slice 0 0 256 1), (2, .slice 1 0 255 1), (19, .slice 1 0 255 1), (20, .i64 255), (21, .i64 (0 : Nat))], [some ⟨false, (outS (0 : Nat)).map .u8⟩, some ⟨false, (pwS 255).map .u8⟩]⟩ (by simp [St.get, lookS, -List.map_set, -List.map_map]) rfl (fun _ _ h => h) ⟨0, by omega, rfl⟩
      rintro jq st ⟨q, hq, rfl⟩ _
      simp only [go_sem, ↓reduceIte, Nat.reduceEqDiff, Nat.reduceLT, Int.reduceEq]
      have hol := outS_length q
      by_cases hq0 : q < 255
      · have hq0' : (q : Int) < 255 := by omega
        have e1 : w64 (255 - (q : Int)) = ((255 - q : Nat) : Int) := by rw [w64_of (by omega) (by omega)]; omega
        have e2 : ((255 - q : Nat) : Int).tmod 255 = (((255 - q) % 255 : Nat) : Int) := rfl
        have g1 := hg q hq0 (by omega)
        have g2 := hg ((255 - q) % 255) (by omega) (by omega)
        have k1 : q < (pwS 255).length := by omega
        have k2 : (255 - q) % 255 < (pwS 255).length := by omega
        have k3 : (((255 - q) % 255 : Nat) : Int) < 255 := by omega
        have k4 : (255 - q) % 255 < 255 := by omega
        have z1 : (0 : Int) ≤ (((255 - q) % 255 : Nat) : Int) := by omega
        have hlt := (pow3 q).isLt
        have hlt' : ((pow3 q).toNat : Int) < 256 := by omega
        have z2 : (0 : Int) ≤ ((pow3 q).toNat : Int) := by omega
        have hst : (outS q).set (pow3 q).toNat (aff (pow3 ((255 - q) % 255))) = outS (q + 1) := rfl
        have hlt2 : (pow3 q).toNat < 256 := hlt
        simp only [go_sem, ↓reduceIte, hq0', hq0, hl, getD_u8 k1, g1, e1, e2, k3, k4, z1, getD_u8 k2, g2]
        refine ⟨by omega, ?_⟩
        refine goCall_pure0 (affine_spec _) ?_
        simp only [go_sem, ↓reduceIte, Nat.reduceEqDiff, Nat.reduceLT, Nat.reduceLeDiff, hst, hol, hlt', z2]
        refine ⟨by omega, ?_⟩
        refine again_mk (jq - 1) ⟨[(1, .slice 0 0 256 1), (2, .slice 1 0 255 1), (19, .slice 1 0 255 1), (20, .i64 255), (21, .i64 (q + 1 : Nat))], [some ⟨false, (outS (q + 1 : Nat)).map .u8⟩, some ⟨false, (pwS 255).map .u8⟩]⟩ (by omega) ?_ rfl (fun _ _ h => h) ⟨q + 1, by omega, rfl⟩
        have hw1 : w64 ((q : Int) + 1) = ((q + 1 : Nat) : Int) := by rw [w64_of (by omega) (by omega)]; omega
        simp [St.get, lookS, hw1, -List.map_set, -List.map_map]
      · obtain rfl : q = 255 := by omega
        have hq0' : ¬ ((255 : Nat) : Int) < 255 := by omega
        simp only [go_sem, ↓reduceIte, Int.reduceLT]
        exact Fin.ren [0] (by simp) (by simp) (by rfl) (by decide) (by simp [-List.map_map, -List.map_set]) (by simp [-List.map_map, -List.map_set])
def subAll (s : List (BitVec 8)) : List (BitVec 8) := s.map subC
theorem chr_byte (b : BitVec 8) : BitVec.ofInt 8 (b.toNat : Int) = b := by
  rw [BitVec.ofInt_natCast]; simp
theorem subbed_spec (s : List (BitVec 8)) (m : Nat) (ws : List (List (BitVec 8))) (hs : s.length ≤ 1000) : Spec0 Tryz.prog 67 [.agg [.slice 0 0 256 1, .slice 1 0 m 1], .str s] [some ⟨false, (outS 255).map .u8⟩, some ⟨false, ws.map .str⟩] (.str (subAll s)) [some ⟨false, (outS 255).map .u8⟩, some ⟨false, ws.map .str⟩] := by
  have hol := outS_length 255
  have hS := S_sub
  generalize outS 255 = T at *
  refine spec0_of_vc (by kernel_rfl) (fn := Tryz.f67) Tryz.func67 rfl (by show 2 ≤ 25; decide) (go_start ?_)
  simp only [go_sem, ↓reduceIte, Nat.reduceEqDiff, Nat.reduceLT, Nat.reduceAdd, Tryz.ntmps67]
  refine go_loop (fun ji st => ∃ i : Nat, i + ji = s.length ∧ st = ⟨[(1, .str s), (2, .ptr 2 0), (5, .str (subAll (s.take i))), (8, .i64 s.length), (9, .i64 i)], [some ⟨false, T.map .u8⟩, some ⟨false, ws.map .str⟩, some ⟨false, [.slice 0 0 256 1, .slice 1 0 m 1]⟩]⟩) ?_ ?_
  · exact start_mk (s.length) ⟨[(1, .str s), (2, .ptr 2 0), (5, .str (subAll (s.take (0 : Nat)))), (8, .i64 s.length), (9, .i64 (0 : Nat))], [some ⟨false, T.map .u8⟩, some ⟨false, ws.map .str⟩, some ⟨false, [.slice 0 0 256 1, .slice 1 0 m 1]⟩]⟩ (by simp [St.get, lookS, -List.map_set, -List.map_map, subAll]) rfl (fun _ _ h => h) ⟨0, by omega, rfl⟩
  rintro ji st ⟨i, hi, rfl⟩ _
  simp only [go_sem, ↓reduceIte, Nat.reduceEqDiff, Nat.reduceLT, Nat.reduceAdd]
  by_cases h0 : i < s.length
  · have h0' : (i : Int) < (s.length : Int) := by omega
    have hlt := (s.getD i 0).isLt
    have hlt' : ((s.getD i 0).toNat : Int) < 256 := by omega
    have z1 : (0 : Int) ≤ ((s.getD i 0).toNat : Int) := by omega
    have k1 : (s.getD i 0).toNat < T.length := by omega
    have hg := hS (s.getD i 0)
    have hc := chr_spec ((subC (s.getD i 0)).toNat : Int)
    rw [chr_byte] at hc
    have hap : subAll (s.take i) ++ [subC (s.getD i 0)] = subAll (s.take (i + 1)) := by unfold subAll; rw [take_snoc h0, List.map_append]; rfl
    have hll : (subAll (s.take i)).length ≤ 1000 := by unfold subAll; rw [List.length_map, List.length_take]; omega
    have zi : (0 : Int) ≤ (i : Int) := by omega
    simp only [go_sem, ↓reduceIte, Nat.reduceLT, Nat.reduceAdd, h0', hlt', z1, zi, hol, getD_u8 k1, hg]
    refine ⟨by omega, ?_⟩
    refine goCallD_pure0 (hc) ?_
    simp only [go_sem, ↓reduceIte, Nat.reduceEqDiff, Nat.reduceLT, Nat.reduceLeDiff, Nat.reduceAdd, hap]
    refine ⟨by omega, by kernel_rfl, ?_⟩
    refine again_mk (ji - 1) ⟨[(1, .str s), (2, .ptr 2 0), (5, .str (subAll (s.take (i + 1 : Nat)))), (8, .i64 s.length), (9, .i64 (i + 1 : Nat))], [some ⟨false, T.map .u8⟩, some ⟨false, ws.map .str⟩, some ⟨false, [.slice 0 0 256 1, .slice 1 0 m 1]⟩]⟩ (by omega) ?_ rfl (fun _ _ h => h) ⟨i + 1, by omega, rfl⟩
    have hw1 : w64 ((i : Int) + 1) = ((i + 1 : Nat) : Int) := by rw [w64_of (by omega) (by omega)]; omega
    simp [St.get, lookS, hw1, -List.map_set, -List.map_map]
  · obtain rfl : i = s.length := by omega
    have h0' : ¬ (s.length : Int) < (s.length : Int) := by omega
    have ht : s.take s.length = s := List.take_length
    simp only [go_sem, ↓reduceIte, h0', ht]
    exact Fin.ren [0, 1] (by simp) (by simp) (by rfl) (by decide) (by simp [-List.map_map, -List.map_set]) (by simp [-List.map_map, -List.map_set])
end Go.Vm
end
section
namespace Go.Vm
open Go.Proofs
set_option maxRecDepth 20000
def p2 : Nat → BitVec 8
  | 0 => 1#8
  | k + 1 => gmul (p2 k) 2#8
/-- What a word becomes ahead of being xored. -/
def gW (n i : Nat) (w : List (BitVec 8)) : List (BitVec 8) := if i % n = 0 then xorB (subAll (w.drop 1 ++ w.take 1)) (p2 (i / n - 1) :: List.replicate 3 0#8) else if n = 8 ∧ i % 8 = 4 then subAll w else w
/-- The first i words. -/
def wl (key : List (BitVec 8)) (n : Nat) : Nat → List (List (BitVec 8))
  | 0 => []
  | i + 1 => if i < n then wl key n i ++ [(key.drop (4 * i)).take 4] else wl key n i ++ [xorB ((wl key n i).getD (i - n) []) (gW n i ((wl key n i).getD (i - 1) []))]
theorem wl_length (key : List (BitVec 8)) (n i : Nat) : (wl key n i).length = i := by
  induction i with
  | zero => rfl
  | succ i ih => rw [wl]; split <;> (rw [List.length_append, ih]; rfl)
theorem subAll_length (s : List (BitVec 8)) : (subAll s).length = s.length := by unfold subAll; rw [List.length_map]
theorem gW_length (n i : Nat) (w : List (BitVec 8)) (h : w.length = 4) : (gW n i w).length = 4 := by
  unfold gW
  split
  · rw [xorB_length, subAll_length, List.length_append, List.length_drop, List.length_take, h]; rfl
  · split
    · rw [subAll_length, h]
    · exact h
theorem getD_memL {l : List (List (BitVec 8))} {i : Nat} (h : i < l.length) : l.getD i [] ∈ l := by
  rw [List.getD_eq_getElem?_getD, List.getElem?_eq_getElem h]; exact List.getElem_mem h
theorem wl_four (key : List (BitVec 8)) (n : Nat) (hn : 0 < n) (hk : key.length = 4 * n) (i : Nat) : ∀ w ∈ wl key n i, w.length = 4 := by
  induction i with
  | zero => intro w h; simp [wl] at h
  | succ i ih =>
    intro w hw
    have hl := wl_length key n i
    rw [wl] at hw
    split at hw
    · rcases List.mem_append.1 hw with h | h
      · exact ih w h
      · rw [List.mem_singleton.1 h, List.length_take, List.length_drop]; omega
    · rcases List.mem_append.1 hw with h | h
      · exact ih w h
      · rw [List.mem_singleton.1 h, xorB_length, gW_length _ _ _ (ih _ (getD_memL (by omega))), ih _ (getD_memL (by omega))]; rfl
set_option maxHeartbeats 4000000 in
theorem AesOf_spec (key : List (BitVec 8)) (n : Nat) (hn : n = 4 ∨ n = 8) (hk : key.length = 4 * n) : Spec0 Tryz.prog 48 [.str key] [] (.tup [.agg [.slice 0 0 256 1, .slice 1 0 (4 * (n + 7)) 1], .bool true]) [some ⟨false, (outS 255).map .u8⟩, some ⟨false, (wl key n (4 * (n + 7))).map .str⟩] := by
  have e0 : w64 ((key.length : Int).tdiv 4) = (n : Int) := by rw [show (4 : Int) = ((4 : Nat) : Int) from rfl, tdiv_nat, w64_of (by omega) (by omega)]; omega
  have e1 : w64 ((n : Int) + 7) = ((n + 7 : Nat) : Int) := by rw [w64_of (by omega) (by omega)]; omega
  have e2 : w64 (4 * ((n + 7 : Nat) : Int)) = ((4 * (n + 7) : Nat) : Int) := by rw [w64_of (by omega) (by omega)]; omega
  generalize hN : 4 * (n + 7) = N at *
  have hks : key.length ≤ 1000 := by omega
  by_cases h16 : (key.length : Int) = 16
  · refine spec0_of_vc (by kernel_rfl) (fn := Tryz.f48) Tryz.func48 rfl (by show 1 ≤ 102; decide) (go_start ?_)
    simp only [go_sem, ↓reduceIte, Nat.reduceEqDiff, Nat.reduceLT, reduceCtorEq, Tryz.ntmps48, h16]
    refine goCall_mem [] (subs_spec) (by kernel_rfl) (by simp [-List.map_map, -List.map_set]) rfl (by simp [-List.map_map, -List.map_set]) (by decide) (by simp [-List.map_map, -List.map_set]) (by simp [-List.map_map, -List.map_set]) (by simp [-List.map_map, -List.map_set]) (by simp [-List.map_map, -List.map_set]) (by simp) ?_
    simp only [go_sem, ↓reduceIte, Nat.reduceEqDiff, Nat.reduceLT, Nat.reduceLeDiff, Nat.reduceAdd, Nat.reduceSub, Int.reduceEq, reduceCtorEq, e0, e1, e2]
    have hsub := subbed_spec
    generalize outS 255 = T at *
    refine go_loop (fun j st => ∃ i : Nat, i + j = N ∧ ((i = 0 ∧ st = ⟨[(0, .str key), (2, .ptr 0 0), (4, .ptr 2 0), (5, .i64 n), (25, .i64 N), (26, .i64 (0 : Nat))], [some ⟨false, [.nilSlice, .nilSlice]⟩, some ⟨false, T.map .u8⟩, some ⟨false, [.slice 1 0 256 1, .nilSlice]⟩]⟩) ∨ (0 < i ∧ st = ⟨[(0, .str key), (2, .ptr 0 0), (4, .ptr 2 0), (5, .i64 n), (25, .i64 N), (26, .i64 i)], [some ⟨false, [.nilSlice, .nilSlice]⟩, some ⟨false, T.map .u8⟩, some ⟨false, [.slice 1 0 256 1, .slice 3 0 i 1]⟩, some ⟨false, (wl key n i).map .str⟩]⟩))) ?_ ?_
    · exact start_mk N ⟨[(0, .str key), (2, .ptr 0 0), (4, .ptr 2 0), (5, .i64 n), (25, .i64 N), (26, .i64 (0 : Nat))], [some ⟨false, [.nilSlice, .nilSlice]⟩, some ⟨false, T.map .u8⟩, some ⟨false, [.slice 1 0 256 1, .nilSlice]⟩]⟩ (by simp [St.get, lookS]) rfl (fun _ _ h => h) ⟨0, by omega, .inl ⟨rfl, rfl⟩⟩
    rintro j st ⟨i, hi, hcase⟩ _
    have hwl := wl_length key n i
    have hw1 : w64 ((i : Int) + 1) = ((i + 1 : Nat) : Int) := by rw [w64_of (by omega) (by omega)]; omega
    by_cases hin : i < n
    · have hin' : (i : Int) < (n : Int) := by omega
      have hiN' : (i : Int) < (N : Int) := by omega
      have hiN : i < N := by omega
      have m1 : w64 (4 * (i : Int)) = ((4 * i : Nat) : Int) := by rw [w64_of (by omega) (by omega)]; omega
      have m2 : w64 (((4 * i : Nat) : Int) + 4) = ((4 * i + 4 : Nat) : Int) := by rw [w64_of (by omega) (by omega)]; omega
      have m3 : (4 * i + 4) - 4 * i = 4 := by omega
      have m4 : (0 : Int) ≤ ((4 * i : Nat) : Int) := by omega
      have m5 : ((4 * i : Nat) : Int) ≤ ((4 * i + 4 : Nat) : Int) := by omega
      have m6 : ((4 * i + 4 : Nat) : Int) ≤ (key.length : Int) := by omega
      have hs : wl key n (i + 1) = wl key n i ++ [(key.drop (4 * i)).take 4] := by rw [wl, if_pos hin]
      have hs' : wl key n i ++ [(key.take (4 * i + 4)).drop (4 * i)] = wl key n (i + 1) := by rw [hs, List.drop_take, m3]
      rcases hcase with ⟨rfl, rfl⟩ | ⟨hi0, rfl⟩
      · have q1 : (0 : Int) < (N : Int) := by omega
        have q2 : (0 : Int) < (n : Int) := by omega
        simp only [go_sem, ↓reduceIte, Nat.reduceEqDiff, Nat.reduceLT, Nat.reduceLeDiff, Nat.reduceAdd, Nat.reduceMul, Nat.reduceDiv, Int.reduceLE, Int.reduceToNat, Int.reduceAdd, Int.reduceMul, Int.reduceNeg, reduceCtorEq, q1, q2]
        refine ⟨by omega, by kernel_rfl, ?_⟩
        refine again_ren (j - 1) ⟨[(0, .str key), (2, .ptr 0 0), (4, .ptr 2 0), (5, .i64 n), (25, .i64 N), (26, .i64 (1 : Nat))], [some ⟨false, [.nilSlice, .nilSlice]⟩, some ⟨false, T.map .u8⟩, some ⟨false, [.slice 1 0 256 1, .slice 3 0 1 1]⟩, some ⟨false, (wl key n 1).map .str⟩]⟩ [0, 1, 2, 4] (by omega) rfl (by simp) rfl (by decide) ?_ ?_ ⟨1, by omega, .inr ⟨by omega, rfl⟩⟩
        · simp [slotsOk, St.get, lookS, -List.map_map, -List.map_set]
        · simp [wl, hin, -List.map_map, -List.map_set]
      · simp only [go_sem, ↓reduceIte, Nat.reduceEqDiff, Nat.reduceLT, Nat.reduceLeDiff, Nat.reduceAdd, reduceCtorEq, hin', hiN', m1, m2, m4, m5, m6, hwl, List.take_of_length_le]
        refine ⟨⟨by omega, by omega⟩, by kernel_rfl, ?_⟩
        refine again_ren (j - 1) ⟨[(0, .str key), (2, .ptr 0 0), (4, .ptr 2 0), (5, .i64 n), (25, .i64 N), (26, .i64 (i + 1 : Nat))], [some ⟨false, [.nilSlice, .nilSlice]⟩, some ⟨false, T.map .u8⟩, some ⟨false, [.slice 1 0 256 1, .slice 3 0 (i + 1) 1]⟩, some ⟨false, (wl key n (i + 1)).map .str⟩]⟩ [0, 1, 2, 5] (by omega) rfl (by simp) rfl (by decide) ?_ ?_ ⟨i + 1, by omega, .inr ⟨by omega, rfl⟩⟩
        · simp [slotsOk, St.get, lookS, hw1, -List.map_map, -List.map_set]
        · rw [← hs']
          simp [-List.map_map, -List.map_set]
    rcases hcase with ⟨rfl, rfl⟩ | ⟨hi0, rfl⟩
    · omega
    by_cases hiN : i < N
    · have hin' : ¬ (i : Int) < (n : Int) := by omega
      have hiN' : (i : Int) < (N : Int) := by omega
      have n0 : ¬ (n : Int) = 0 := by omega
      have z1 : w64 ((i : Int) - 1) = ((i - 1 : Nat) : Int) := by rw [w64_of (by omega) (by omega)]; omega
      have z2 : ((i - 1 : Nat) : Int) < (i : Int) := by omega
      have z3 : i - 1 < i := by omega
      have z4 : (0 : Int) ≤ ((i - 1 : Nat) : Int) := by omega
      have z5 : i - 1 < (wl key n i).length := by omega
      have y1 : w64 ((i : Int) - (n : Int)) = ((i - n : Nat) : Int) := by rw [w64_of (by omega) (by omega)]; omega
      have y2 : ((i - n : Nat) : Int) < (i : Int) := by omega
      have y3 : i - n < i := by omega
      have y4 : (0 : Int) ≤ ((i - n : Nat) : Int) := by omega
      have y5 : i - n < (wl key n i).length := by omega
      have tm : (i : Int).tmod (n : Int) = ((i % n : Nat) : Int) := rfl
      have w1 := wl_four key n (by omega) (by omega) i _ (getD_memL z5)
      have w2 := wl_four key n (by omega) (by omega) i _ (getD_memL y5)
      obtain ⟨l, hle⟩ : ∃ l, l = (wl key n i).getD (i - 1) [] := ⟨_, rfl⟩
      obtain ⟨b, hbe⟩ : ∃ b, b = (wl key n i).getD (i - n) [] := ⟨_, rfl⟩
      rw [← hle] at w1
      rw [← hbe] at w2
      have hs0 : wl key n (i + 1) = wl key n i ++ [xorB b (gW n i l)] := by rw [wl, if_neg hin, ← hle, ← hbe]
      by_cases hm0 : i % n = 0
      · have hm0' : ((i % n : Nat) : Int) = 0 := by omega
        have td : (i : Int).tdiv (n : Int) = ((i / n : Nat) : Int) := rfl
        have hq1 : 1 ≤ i / n := by rcases hn with rfl | rfl <;> omega
        have hq2 : i / n ≤ 100 := by rcases hn with rfl | rfl <;> omega
        have td3 : w64 ((i / n : Nat) : Int) = ((i / n : Nat) : Int) := by rw [w64_of (by omega) (by omega)]
        have td2 : w64 (((i / n : Nat) : Int) - 1) = ((i / n - 1 : Nat) : Int) := by rw [w64_of (by omega) (by omega)]; omega
        simp only [go_sem, ↓reduceIte, Nat.reduceEqDiff, Nat.reduceLT, Nat.reduceAdd, Int.reduceLE, Int.reduceLT, BitVec.reduceOfInt, reduceCtorEq, hin', hiN', hwl, n0, z1, z2, z3, z4, tm, td, hm0', getD_str z5, ← hle, td3, td2]
        refine go_loop (fun jq st => ∃ q : Nat, q + jq = i / n - 1 ∧ st = ⟨[(0, .str key), (2, .ptr 0 0), (4, .ptr 2 0), (5, .i64 n), (6, .i64 i), (7, .str l), (8, .u8 (p2 q)), (25, .i64 N), (26, .i64 i), (57, .i64 (i / n - 1 : Nat)), (58, .i64 q)], [some ⟨false, [.nilSlice, .nilSlice]⟩, some ⟨false, T.map .u8⟩, some ⟨false, [.slice 1 0 256 1, .slice 3 0 i 1]⟩, some ⟨false, (wl key n i).map .str⟩]⟩) ?_ ?_
        · exact start_mk (i / n - 1) ⟨[(0, .str key), (2, .ptr 0 0), (4, .ptr 2 0), (5, .i64 n), (6, .i64 i), (7, .str l), (8, .u8 (p2 (0 : Nat))), (25, .i64 N), (26, .i64 i), (57, .i64 (i / n - 1 : Nat)), (58, .i64 (0 : Nat))], [some ⟨false, [.nilSlice, .nilSlice]⟩, some ⟨false, T.map .u8⟩, some ⟨false, [.slice 1 0 256 1, .slice 3 0 i 1]⟩, some ⟨false, (wl key n i).map .str⟩]⟩ (by simp [St.get, lookS, -List.map_set, -List.map_map, p2]) rfl (fun _ _ h => h) ⟨0, by omega, rfl⟩
        rintro jq st ⟨q, hq, rfl⟩ _
        simp only [go_sem, ↓reduceIte, Nat.reduceEqDiff, Nat.reduceLT, Nat.reduceAdd, Int.reduceLE, Int.reduceLT, Int.reduceToNat, BitVec.reduceOfInt, reduceCtorEq]
        by_cases hq : q < i / n - 1
        · have hq' : (q : Int) < ((i / n - 1 : Nat) : Int) := by omega
          have hp : p2 (q + 1) = rmul (p2 q) 2#8 := by rw [p2, gmul_rmul]
          simp only [go_sem, ↓reduceIte, hq']
          refine goCall_pure0 (RMul_spec _ _) ?_
          simp only [go_sem, ↓reduceIte, Nat.reduceEqDiff, Nat.reduceLT, reduceCtorEq, ← hp]
          refine again_mk (jq - 1) ⟨[(0, .str key), (2, .ptr 0 0), (4, .ptr 2 0), (5, .i64 n), (6, .i64 i), (7, .str l), (8, .u8 (p2 (q + 1 : Nat))), (25, .i64 N), (26, .i64 i), (57, .i64 (i / n - 1 : Nat)), (58, .i64 (q + 1 : Nat))], [some ⟨false, [.nilSlice, .nilSlice]⟩, some ⟨false, T.map .u8⟩, some ⟨false, [.slice 1 0 256 1, .slice 3 0 i 1]⟩, some ⟨false, (wl key n i).map .str⟩]⟩ (by omega) ?_ rfl (fun _ _ h => h) ⟨q + 1, by omega, rfl⟩
          have hw1 : w64 ((q : Int) + 1) = ((q + 1 : Nat) : Int) := by rw [w64_of (by omega) (by omega)]; omega
          simp [St.get, lookS, hw1, -List.map_set, -List.map_map]
        · obtain rfl : q = i / n - 1 := by omega
          have hq' : ¬ ((i / n - 1 : Nat) : Int) < ((i / n - 1 : Nat) : Int) := by omega
          have hd : (l.drop 1).length = 3 := by rw [List.length_drop]; omega
          have hlt := (p2 (i / n - 1)).isLt
          have ll1 : (l.drop 1 ++ l.take 1).length ≤ 1000 := by rw [List.length_append, List.length_drop, List.length_take]; omega
          have hc := chr_spec ((p2 (i / n - 1)).toNat : Int)
          rw [chr_byte] at hc
          obtain ⟨r, hr⟩ : ∃ r, r = l.drop 1 ++ l.take 1 := ⟨_, rfl⟩
          have hrl : r.length = 4 := by rw [hr, List.length_append, List.length_drop, List.length_take]; omega
          have hrs : (subAll r).length = 4 := by rw [subAll_length, hrl]
          have hx := RXor_spec (subAll r) (p2 (i / n - 1) :: List.replicate 3 0#8) (by rw [hrs]; exact Nat.le_refl 4) (by omega)
          have hgl := gW_length n i l w1
          have hg : gW n i l = xorB (subAll r) (p2 (i / n - 1) :: List.replicate 3 0#8) := by unfold gW; rw [if_pos hm0, ← hr]
          rw [← hg] at hx
          simp only [go_sem, ↓reduceIte, Nat.reduceSub, Int.reduceLE, hq', w1, ← hr]
          refine ⟨by omega, ?_⟩
          refine goCallD_read [1, 3] (hsub r i (wl key n i) (by omega)) (by kernel_rfl) (by simp [-List.map_map, -List.map_set]) rfl (by simp [-List.map_map, -List.map_set]) (by decide) (by simp [-List.map_map, -List.map_set]) (by simp [-List.map_map, -List.map_set]) (by simp [-List.map_map, -List.map_set]) (by simp [-List.map_map, -List.map_set]) (by simp) (by first | (simp [memRes, oldsOf, sgNew, renO, Blk.ren, -List.map_map, -List.map_set]; done) | simp [go_sem, memRes]) ?_
          simp only [go_sem, ↓reduceIte, Nat.reduceEqDiff, Nat.reduceLT, Nat.reduceAdd, Nat.reduceSub, reduceCtorEq]
          refine goCallD_pure0 (hc) ?_
          simp only [go_sem, Nat.reduceLT]
          refine goCallD_pure0 (zeros_spec 3 (by decide)) ?_
          simp only [go_sem, ↓reduceIte, Nat.reduceEqDiff, Nat.reduceLT, Nat.reduceLeDiff, Nat.reduceAdd]
          refine goCallD_pure0 (hx) ?_
          simp only [go_sem, ↓reduceIte, Nat.reduceEqDiff, Nat.reduceLT, Nat.reduceAdd, reduceCtorEq, hwl, y1, y2, y3, y4, getD_str y5, ← hbe]
          refine ⟨by kernel_rfl, ?_⟩
          refine goCallD_pure0 (RXor_spec b (gW n i l) (by omega) (by omega)) ?_
          simp only [go_sem, ↓reduceIte, Nat.reduceEqDiff, Nat.reduceLT, Nat.reduceLeDiff, Nat.reduceAdd, reduceCtorEq, hwl, List.take_of_length_le, ← hs0]
          refine ⟨⟨by omega, by omega⟩, by kernel_rfl, ?_⟩
          refine again_ren (j - 1) ⟨[(0, .str key), (2, .ptr 0 0), (4, .ptr 2 0), (5, .i64 n), (25, .i64 N), (26, .i64 (i + 1 : Nat))], [some ⟨false, [.nilSlice, .nilSlice]⟩, some ⟨false, T.map .u8⟩, some ⟨false, [.slice 1 0 256 1, .slice 3 0 (i + 1) 1]⟩, some ⟨false, (wl key n (i + 1)).map .str⟩]⟩ [0, 1, 2, 5] (by omega) rfl (by simp) rfl (by decide) ?_ ?_ ⟨i + 1, by omega, .inr ⟨by omega, rfl⟩⟩
          · simp [slotsOk, St.get, lookS, hw1, -List.map_map, -List.map_set]
          · simp [-List.map_map, -List.map_set]
      · have hm0' : ¬ ((i % n : Nat) : Int) = 0 := by omega
        have hgl := gW_length n i l w1
        by_cases hn8 : n = 8
        · have hn8' : ((n : Int) = 8) = True := eq_true (by omega)
          have tm8 : (i : Int).tmod 8 = ((i % 8 : Nat) : Int) := rfl
          by_cases h4 : i % 8 = 4
          · have h4' : ((i % 8 : Nat) : Int) = 4 := by omega
            have hg : gW n i l = subAll l := by unfold gW; rw [if_neg hm0, if_pos ⟨hn8, h4⟩]
            simp only [go_sem, ↓reduceIte, Nat.reduceEqDiff, Nat.reduceLT, Nat.reduceAdd, Int.reduceEq, reduceCtorEq, hin', hiN', hwl, n0, z1, z2, z3, z4, tm, hm0', getD_str z5, ← hle, hn8', tm8, h4']
            refine goCall_mem [1, 3] (hsub l i (wl key n i) (by omega)) (by kernel_rfl) (by simp [-List.map_map, -List.map_set]) rfl (by simp [-List.map_map, -List.map_set]) (by decide) (by simp [-List.map_map, -List.map_set]) (by simp [-List.map_map, -List.map_set]) (by simp [-List.map_map, -List.map_set]) (by simp [-List.map_map, -List.map_set]) (by simp) ?_
            simp only [go_sem, ↓reduceIte, Nat.reduceEqDiff, Nat.reduceLT, Nat.reduceAdd, Nat.reduceSub, reduceCtorEq, memRes, ← hg, hwl, y1, y2, y3, y4, getD_str y5, ← hbe]
            refine goCallD_pure0 (RXor_spec b (gW n i l) (by omega) (by omega)) ?_
            simp only [go_sem, ↓reduceIte, Nat.reduceEqDiff, Nat.reduceLT, Nat.reduceLeDiff, Nat.reduceAdd, reduceCtorEq, hwl, List.take_of_length_le, ← hs0]
            refine ⟨⟨by omega, by omega⟩, by kernel_rfl, ?_⟩
            refine again_ren (j - 1) ⟨[(0, .str key), (2, .ptr 0 0), (4, .ptr 2 0), (5, .i64 n), (25, .i64 N), (26, .i64 (i + 1 : Nat))], [some ⟨false, [.nilSlice, .nilSlice]⟩, some ⟨false, T.map .u8⟩, some ⟨false, [.slice 1 0 256 1, .slice 3 0 (i + 1) 1]⟩, some ⟨false, (wl key n (i + 1)).map .str⟩]⟩ [0, 1, 2, 5] (by omega) rfl (by simp) rfl (by decide) ?_ ?_ ⟨i + 1, by omega, .inr ⟨by omega, rfl⟩⟩
            · simp [slotsOk, St.get, lookS, hw1, -List.map_map, -List.map_set]
            · simp [-List.map_map, -List.map_set]
          · have h4' : ¬ ((i % 8 : Nat) : Int) = 4 := by omega
            have hg : gW n i l = l := by unfold gW; rw [if_neg hm0, if_neg (by omega)]
            simp only [go_sem, ↓reduceIte, Nat.reduceEqDiff, Nat.reduceLT, Nat.reduceAdd, Int.reduceEq, reduceCtorEq, hin', hiN', hwl, n0, z1, z2, z3, z4, tm, hm0', getD_str z5, ← hle, hn8', tm8, h4', y1, y2, y3, y4, getD_str y5, ← hbe]
            rw [hg] at hs0 hgl
            refine goCallD_pure0 (RXor_spec b l (by omega) (by omega)) ?_
            simp only [go_sem, ↓reduceIte, Nat.reduceEqDiff, Nat.reduceLT, Nat.reduceLeDiff, Nat.reduceAdd, reduceCtorEq, hwl, List.take_of_length_le, ← hs0]
            refine ⟨⟨by omega, by omega⟩, by kernel_rfl, ?_⟩
            refine again_ren (j - 1) ⟨[(0, .str key), (2, .ptr 0 0), (4, .ptr 2 0), (5, .i64 n), (25, .i64 N), (26, .i64 (i + 1 : Nat))], [some ⟨false, [.nilSlice, .nilSlice]⟩, some ⟨false, T.map .u8⟩, some ⟨false, [.slice 1 0 256 1, .slice 3 0 (i + 1) 1]⟩, some ⟨false, (wl key n (i + 1)).map .str⟩]⟩ [0, 1, 2, 5] (by omega) rfl (by simp) rfl (by decide) ?_ ?_ ⟨i + 1, by omega, .inr ⟨by omega, rfl⟩⟩
            · simp [slotsOk, St.get, lookS, hw1, -List.map_map, -List.map_set]
            · simp [-List.map_map, -List.map_set]
        · have hn8' : ¬ (n : Int) = 8 := by omega
          have hg : gW n i l = l := by unfold gW; rw [if_neg hm0, if_neg (by omega)]
          simp only [go_sem, ↓reduceIte, Nat.reduceEqDiff, Nat.reduceLT, Nat.reduceAdd, reduceCtorEq, hin', hiN', hwl, n0, z1, z2, z3, z4, tm, hm0', getD_str z5, ← hle, hn8', y1, y2, y3, y4, getD_str y5, ← hbe]
          rw [hg] at hs0 hgl
          refine goCallD_pure0 (RXor_spec b l (by omega) (by omega)) ?_
          simp only [go_sem, ↓reduceIte, Nat.reduceEqDiff, Nat.reduceLT, Nat.reduceLeDiff, Nat.reduceAdd, reduceCtorEq, hwl, List.take_of_length_le, ← hs0]
          refine ⟨⟨by omega, by omega⟩, by kernel_rfl, ?_⟩
          refine again_ren (j - 1) ⟨[(0, .str key), (2, .ptr 0 0), (4, .ptr 2 0), (5, .i64 n), (25, .i64 N), (26, .i64 (i + 1 : Nat))], [some ⟨false, [.nilSlice, .nilSlice]⟩, some ⟨false, T.map .u8⟩, some ⟨false, [.slice 1 0 256 1, .slice 3 0 (i + 1) 1]⟩, some ⟨false, (wl key n (i + 1)).map .str⟩]⟩ [0, 1, 2, 5] (by omega) rfl (by simp) rfl (by decide) ?_ ?_ ⟨i + 1, by omega, .inr ⟨by omega, rfl⟩⟩
          · simp [slotsOk, St.get, lookS, hw1, -List.map_map, -List.map_set]
          · simp [-List.map_map, -List.map_set]
    · obtain rfl : i = N := by omega
      have hiN' : ¬ (i : Int) < (i : Int) := by omega
      simp only [go_sem, ↓reduceIte, Nat.reduceEqDiff, Nat.reduceLT, Nat.reduceAdd, reduceCtorEq, hiN']
      exact Fin.ren [1, 3] (by simp) (by simp) (by rfl) (by decide) (by simp [-List.map_map, -List.map_set]) (by simp [-List.map_map, -List.map_set])
  · have h32 : (key.length : Int) = 32 := by omega
    refine spec0_of_vc (by kernel_rfl) (fn := Tryz.f48) Tryz.func48 rfl (by show 1 ≤ 102; decide) (go_start ?_)
    simp only [go_sem, ↓reduceIte, Nat.reduceEqDiff, Nat.reduceLT, Int.reduceEq, reduceCtorEq, Tryz.ntmps48, h32]
    refine goCall_mem [] (subs_spec) (by kernel_rfl) (by simp [-List.map_map, -List.map_set]) rfl (by simp [-List.map_map, -List.map_set]) (by decide) (by simp [-List.map_map, -List.map_set]) (by simp [-List.map_map, -List.map_set]) (by simp [-List.map_map, -List.map_set]) (by simp [-List.map_map, -List.map_set]) (by simp) ?_
    simp only [go_sem, ↓reduceIte, Nat.reduceEqDiff, Nat.reduceLT, Nat.reduceLeDiff, Nat.reduceAdd, Nat.reduceSub, Int.reduceEq, reduceCtorEq, e0, e1, e2]
    have hsub := subbed_spec
    generalize outS 255 = T at *
    refine go_loop (fun j st => ∃ i : Nat, i + j = N ∧ ((i = 0 ∧ st = ⟨[(0, .str key), (2, .ptr 0 0), (4, .ptr 2 0), (5, .i64 n), (25, .i64 N), (26, .i64 (0 : Nat))], [some ⟨false, [.nilSlice, .nilSlice]⟩, some ⟨false, T.map .u8⟩, some ⟨false, [.slice 1 0 256 1, .nilSlice]⟩]⟩) ∨ (0 < i ∧ st = ⟨[(0, .str key), (2, .ptr 0 0), (4, .ptr 2 0), (5, .i64 n), (25, .i64 N), (26, .i64 i)], [some ⟨false, [.nilSlice, .nilSlice]⟩, some ⟨false, T.map .u8⟩, some ⟨false, [.slice 1 0 256 1, .slice 3 0 i 1]⟩, some ⟨false, (wl key n i).map .str⟩]⟩))) ?_ ?_
    · exact start_mk N ⟨[(0, .str key), (2, .ptr 0 0), (4, .ptr 2 0), (5, .i64 n), (25, .i64 N), (26, .i64 (0 : Nat))], [some ⟨false, [.nilSlice, .nilSlice]⟩, some ⟨false, T.map .u8⟩, some ⟨false, [.slice 1 0 256 1, .nilSlice]⟩]⟩ (by simp [St.get, lookS]) rfl (fun _ _ h => h) ⟨0, by omega, .inl ⟨rfl, rfl⟩⟩
    rintro j st ⟨i, hi, hcase⟩ _
    have hwl := wl_length key n i
    have hw1 : w64 ((i : Int) + 1) = ((i + 1 : Nat) : Int) := by rw [w64_of (by omega) (by omega)]; omega
    by_cases hin : i < n
    · have hin' : (i : Int) < (n : Int) := by omega
      have hiN' : (i : Int) < (N : Int) := by omega
      have hiN : i < N := by omega
      have m1 : w64 (4 * (i : Int)) = ((4 * i : Nat) : Int) := by rw [w64_of (by omega) (by omega)]; omega
      have m2 : w64 (((4 * i : Nat) : Int) + 4) = ((4 * i + 4 : Nat) : Int) := by rw [w64_of (by omega) (by omega)]; omega
      have m3 : (4 * i + 4) - 4 * i = 4 := by omega
      have m4 : (0 : Int) ≤ ((4 * i : Nat) : Int) := by omega
      have m5 : ((4 * i : Nat) : Int) ≤ ((4 * i + 4 : Nat) : Int) := by omega
      have m6 : ((4 * i + 4 : Nat) : Int) ≤ (key.length : Int) := by omega
      have hs : wl key n (i + 1) = wl key n i ++ [(key.drop (4 * i)).take 4] := by rw [wl, if_pos hin]
      have hs' : wl key n i ++ [(key.take (4 * i + 4)).drop (4 * i)] = wl key n (i + 1) := by rw [hs, List.drop_take, m3]
      rcases hcase with ⟨rfl, rfl⟩ | ⟨hi0, rfl⟩
      · have q1 : (0 : Int) < (N : Int) := by omega
        have q2 : (0 : Int) < (n : Int) := by omega
        simp only [go_sem, ↓reduceIte, Nat.reduceEqDiff, Nat.reduceLT, Nat.reduceLeDiff, Nat.reduceAdd, Nat.reduceMul, Nat.reduceDiv, Int.reduceLE, Int.reduceToNat, Int.reduceAdd, Int.reduceMul, Int.reduceNeg, reduceCtorEq, q1, q2]
        refine ⟨by omega, by kernel_rfl, ?_⟩
        refine again_ren (j - 1) ⟨[(0, .str key), (2, .ptr 0 0), (4, .ptr 2 0), (5, .i64 n), (25, .i64 N), (26, .i64 (1 : Nat))], [some ⟨false, [.nilSlice, .nilSlice]⟩, some ⟨false, T.map .u8⟩, some ⟨false, [.slice 1 0 256 1, .slice 3 0 1 1]⟩, some ⟨false, (wl key n 1).map .str⟩]⟩ [0, 1, 2, 4] (by omega) rfl (by simp) rfl (by decide) ?_ ?_ ⟨1, by omega, .inr ⟨by omega, rfl⟩⟩
        · simp [slotsOk, St.get, lookS, -List.map_map, -List.map_set]
        · simp [wl, hin, -List.map_map, -List.map_set]
      · simp only [go_sem, ↓reduceIte, Nat.reduceEqDiff, Nat.reduceLT, Nat.reduceLeDiff, Nat.reduceAdd, reduceCtorEq, hin', hiN', m1, m2, m4, m5, m6, hwl, List.take_of_length_le]
        refine ⟨⟨by omega, by omega⟩, by kernel_rfl, ?_⟩
        refine again_ren (j - 1) ⟨[(0, .str key), (2, .ptr 0 0), (4, .ptr 2 0), (5, .i64 n), (25, .i64 N), (26, .i64 (i + 1 : Nat))], [some ⟨false, [.nilSlice, .nilSlice]⟩, some ⟨false, T.map .u8⟩, some ⟨false, [.slice 1 0 256 1, .slice 3 0 (i + 1) 1]⟩, some ⟨false, (wl key n (i + 1)).map .str⟩]⟩ [0, 1, 2, 5] (by omega) rfl (by simp) rfl (by decide) ?_ ?_ ⟨i + 1, by omega, .inr ⟨by omega, rfl⟩⟩
        · simp [slotsOk, St.get, lookS, hw1, -List.map_map, -List.map_set]
        · rw [← hs']
          simp [-List.map_map, -List.map_set]
    rcases hcase with ⟨rfl, rfl⟩ | ⟨hi0, rfl⟩
    · omega
    by_cases hiN : i < N
    · have hin' : ¬ (i : Int) < (n : Int) := by omega
      have hiN' : (i : Int) < (N : Int) := by omega
      have n0 : ¬ (n : Int) = 0 := by omega
      have z1 : w64 ((i : Int) - 1) = ((i - 1 : Nat) : Int) := by rw [w64_of (by omega) (by omega)]; omega
      have z2 : ((i - 1 : Nat) : Int) < (i : Int) := by omega
      have z3 : i - 1 < i := by omega
      have z4 : (0 : Int) ≤ ((i - 1 : Nat) : Int) := by omega
      have z5 : i - 1 < (wl key n i).length := by omega
      have y1 : w64 ((i : Int) - (n : Int)) = ((i - n : Nat) : Int) := by rw [w64_of (by omega) (by omega)]; omega
      have y2 : ((i - n : Nat) : Int) < (i : Int) := by omega
      have y3 : i - n < i := by omega
      have y4 : (0 : Int) ≤ ((i - n : Nat) : Int) := by omega
      have y5 : i - n < (wl key n i).length := by omega
      have tm : (i : Int).tmod (n : Int) = ((i % n : Nat) : Int) := rfl
      have w1 := wl_four key n (by omega) (by omega) i _ (getD_memL z5)
      have w2 := wl_four key n (by omega) (by omega) i _ (getD_memL y5)
      obtain ⟨l, hle⟩ : ∃ l, l = (wl key n i).getD (i - 1) [] := ⟨_, rfl⟩
      obtain ⟨b, hbe⟩ : ∃ b, b = (wl key n i).getD (i - n) [] := ⟨_, rfl⟩
      rw [← hle] at w1
      rw [← hbe] at w2
      have hs0 : wl key n (i + 1) = wl key n i ++ [xorB b (gW n i l)] := by rw [wl, if_neg hin, ← hle, ← hbe]
      by_cases hm0 : i % n = 0
      · have hm0' : ((i % n : Nat) : Int) = 0 := by omega
        have td : (i : Int).tdiv (n : Int) = ((i / n : Nat) : Int) := rfl
        have hq1 : 1 ≤ i / n := by rcases hn with rfl | rfl <;> omega
        have hq2 : i / n ≤ 100 := by rcases hn with rfl | rfl <;> omega
        have td3 : w64 ((i / n : Nat) : Int) = ((i / n : Nat) : Int) := by rw [w64_of (by omega) (by omega)]
        have td2 : w64 (((i / n : Nat) : Int) - 1) = ((i / n - 1 : Nat) : Int) := by rw [w64_of (by omega) (by omega)]; omega
        simp only [go_sem, ↓reduceIte, Nat.reduceEqDiff, Nat.reduceLT, Nat.reduceAdd, Int.reduceLE, Int.reduceLT, BitVec.reduceOfInt, reduceCtorEq, hin', hiN', hwl, n0, z1, z2, z3, z4, tm, td, hm0', getD_str z5, ← hle, td3, td2]
        refine go_loop (fun jq st => ∃ q : Nat, q + jq = i / n - 1 ∧ st = ⟨[(0, .str key), (2, .ptr 0 0), (4, .ptr 2 0), (5, .i64 n), (6, .i64 i), (7, .str l), (8, .u8 (p2 q)), (25, .i64 N), (26, .i64 i), (57, .i64 (i / n - 1 : Nat)), (58, .i64 q)], [some ⟨false, [.nilSlice, .nilSlice]⟩, some ⟨false, T.map .u8⟩, some ⟨false, [.slice 1 0 256 1, .slice 3 0 i 1]⟩, some ⟨false, (wl key n i).map .str⟩]⟩) ?_ ?_
        · exact start_mk (i / n - 1) ⟨[(0, .str key), (2, .ptr 0 0), (4, .ptr 2 0), (5, .i64 n), (6, .i64 i), (7, .str l), (8, .u8 (p2 (0 : Nat))), (25, .i64 N), (26, .i64 i), (57, .i64 (i / n - 1 : Nat)), (58, .i64 (0 : Nat))], [some ⟨false, [.nilSlice, .nilSlice]⟩, some ⟨false, T.map .u8⟩, some ⟨false, [.slice 1 0 256 1, .slice 3 0 i 1]⟩, some ⟨false, (wl key n i).map .str⟩]⟩ (by simp [St.get, lookS, -List.map_set, -List.map_map, p2]) rfl (fun _ _ h => h) ⟨0, by omega, rfl⟩
        rintro jq st ⟨q, hq, rfl⟩ _
        simp only [go_sem, ↓reduceIte, Nat.reduceEqDiff, Nat.reduceLT, Nat.reduceAdd, Int.reduceLE, Int.reduceLT, Int.reduceToNat, BitVec.reduceOfInt, reduceCtorEq]
        by_cases hq : q < i / n - 1
        · have hq' : (q : Int) < ((i / n - 1 : Nat) : Int) := by omega
          have hp : p2 (q + 1) = rmul (p2 q) 2#8 := by rw [p2, gmul_rmul]
          simp only [go_sem, ↓reduceIte, hq']
          refine goCall_pure0 (RMul_spec _ _) ?_
          simp only [go_sem, ↓reduceIte, Nat.reduceEqDiff, Nat.reduceLT, reduceCtorEq, ← hp]
          refine again_mk (jq - 1) ⟨[(0, .str key), (2, .ptr 0 0), (4, .ptr 2 0), (5, .i64 n), (6, .i64 i), (7, .str l), (8, .u8 (p2 (q + 1 : Nat))), (25, .i64 N), (26, .i64 i), (57, .i64 (i / n - 1 : Nat)), (58, .i64 (q + 1 : Nat))], [some ⟨false, [.nilSlice, .nilSlice]⟩, some ⟨false, T.map .u8⟩, some ⟨false, [.slice 1 0 256 1, .slice 3 0 i 1]⟩, some ⟨false, (wl key n i).map .str⟩]⟩ (by omega) ?_ rfl (fun _ _ h => h) ⟨q + 1, by omega, rfl⟩
          have hw1 : w64 ((q : Int) + 1) = ((q + 1 : Nat) : Int) := by rw [w64_of (by omega) (by omega)]; omega
          simp [St.get, lookS, hw1, -List.map_set, -List.map_map]
        · obtain rfl : q = i / n - 1 := by omega
          have hq' : ¬ ((i / n - 1 : Nat) : Int) < ((i / n - 1 : Nat) : Int) := by omega
          have hd : (l.drop 1).length = 3 := by rw [List.length_drop]; omega
          have hlt := (p2 (i / n - 1)).isLt
          have ll1 : (l.drop 1 ++ l.take 1).length ≤ 1000 := by rw [List.length_append, List.length_drop, List.length_take]; omega
          have hc := chr_spec ((p2 (i / n - 1)).toNat : Int)
          rw [chr_byte] at hc
          obtain ⟨r, hr⟩ : ∃ r, r = l.drop 1 ++ l.take 1 := ⟨_, rfl⟩
          have hrl : r.length = 4 := by rw [hr, List.length_append, List.length_drop, List.length_take]; omega
          have hrs : (subAll r).length = 4 := by rw [subAll_length, hrl]
          have hx := RXor_spec (subAll r) (p2 (i / n - 1) :: List.replicate 3 0#8) (by rw [hrs]; exact Nat.le_refl 4) (by omega)
          have hgl := gW_length n i l w1
          have hg : gW n i l = xorB (subAll r) (p2 (i / n - 1) :: List.replicate 3 0#8) := by unfold gW; rw [if_pos hm0, ← hr]
          rw [← hg] at hx
          simp only [go_sem, ↓reduceIte, Nat.reduceSub, Int.reduceLE, hq', w1, ← hr]
          refine ⟨by omega, ?_⟩
          refine goCallD_read [1, 3] (hsub r i (wl key n i) (by omega)) (by kernel_rfl) (by simp [-List.map_map, -List.map_set]) rfl (by simp [-List.map_map, -List.map_set]) (by decide) (by simp [-List.map_map, -List.map_set]) (by simp [-List.map_map, -List.map_set]) (by simp [-List.map_map, -List.map_set]) (by simp [-List.map_map, -List.map_set]) (by simp) (by first | (simp [memRes, oldsOf, sgNew, renO, Blk.ren, -List.map_map, -List.map_set]; done) | simp [go_sem, memRes]) ?_
          simp only [go_sem, ↓reduceIte, Nat.reduceEqDiff, Nat.reduceLT, Nat.reduceAdd, Nat.reduceSub, reduceCtorEq]
          refine goCallD_pure0 (hc) ?_
          simp only [go_sem, Nat.reduceLT]
          refine goCallD_pure0 (zeros_spec 3 (by decide)) ?_
          simp only [go_sem, ↓reduceIte, Nat.reduceEqDiff, Nat.reduceLT, Nat.reduceLeDiff, Nat.reduceAdd]
          refine goCallD_pure0 (hx) ?_
          simp only [go_sem, ↓reduceIte, Nat.reduceEqDiff, Nat.reduceLT, Nat.reduceAdd, reduceCtorEq, hwl, y1, y2, y3, y4, getD_str y5, ← hbe]
          refine ⟨by kernel_rfl, ?_⟩
          refine goCallD_pure0 (RXor_spec b (gW n i l) (by omega) (by omega)) ?_
          simp only [go_sem, ↓reduceIte, Nat.reduceEqDiff, Nat.reduceLT, Nat.reduceLeDiff, Nat.reduceAdd, reduceCtorEq, hwl, List.take_of_length_le, ← hs0]
          refine ⟨⟨by omega, by omega⟩, by kernel_rfl, ?_⟩
          refine again_ren (j - 1) ⟨[(0, .str key), (2, .ptr 0 0), (4, .ptr 2 0), (5, .i64 n), (25, .i64 N), (26, .i64 (i + 1 : Nat))], [some ⟨false, [.nilSlice, .nilSlice]⟩, some ⟨false, T.map .u8⟩, some ⟨false, [.slice 1 0 256 1, .slice 3 0 (i + 1) 1]⟩, some ⟨false, (wl key n (i + 1)).map .str⟩]⟩ [0, 1, 2, 5] (by omega) rfl (by simp) rfl (by decide) ?_ ?_ ⟨i + 1, by omega, .inr ⟨by omega, rfl⟩⟩
          · simp [slotsOk, St.get, lookS, hw1, -List.map_map, -List.map_set]
          · simp [-List.map_map, -List.map_set]
      · have hm0' : ¬ ((i % n : Nat) : Int) = 0 := by omega
        have hgl := gW_length n i l w1
        by_cases hn8 : n = 8
        · have hn8' : ((n : Int) = 8) = True := eq_true (by omega)
          have tm8 : (i : Int).tmod 8 = ((i % 8 : Nat) : Int) := rfl
          by_cases h4 : i % 8 = 4
          · have h4' : ((i % 8 : Nat) : Int) = 4 := by omega
            have hg : gW n i l = subAll l := by unfold gW; rw [if_neg hm0, if_pos ⟨hn8, h4⟩]
            simp only [go_sem, ↓reduceIte, Nat.reduceEqDiff, Nat.reduceLT, Nat.reduceAdd, Int.reduceEq, reduceCtorEq, hin', hiN', hwl, n0, z1, z2, z3, z4, tm, hm0', getD_str z5, ← hle, hn8', tm8, h4']
            refine goCall_mem [1, 3] (hsub l i (wl key n i) (by omega)) (by kernel_rfl) (by simp [-List.map_map, -List.map_set]) rfl (by simp [-List.map_map, -List.map_set]) (by decide) (by simp [-List.map_map, -List.map_set]) (by simp [-List.map_map, -List.map_set]) (by simp [-List.map_map, -List.map_set]) (by simp [-List.map_map, -List.map_set]) (by simp) ?_
            simp only [go_sem, ↓reduceIte, Nat.reduceEqDiff, Nat.reduceLT, Nat.reduceAdd, Nat.reduceSub, reduceCtorEq, memRes, ← hg, hwl, y1, y2, y3, y4, getD_str y5, ← hbe]
            refine goCallD_pure0 (RXor_spec b (gW n i l) (by omega) (by omega)) ?_
            simp only [go_sem, ↓reduceIte, Nat.reduceEqDiff, Nat.reduceLT, Nat.reduceLeDiff, Nat.reduceAdd, reduceCtorEq, hwl, List.take_of_length_le, ← hs0]
            refine ⟨⟨by omega, by omega⟩, by kernel_rfl, ?_⟩
            refine again_ren (j - 1) ⟨[(0, .str key), (2, .ptr 0 0), (4, .ptr 2 0), (5, .i64 n), (25, .i64 N), (26, .i64 (i + 1 : Nat))], [some ⟨false, [.nilSlice, .nilSlice]⟩, some ⟨false, T.map .u8⟩, some ⟨false, [.slice 1 0 256 1, .slice 3 0 (i + 1) 1]⟩, some ⟨false, (wl key n (i + 1)).map .str⟩]⟩ [0, 1, 2, 5] (by omega) rfl (by simp) rfl (by decide) ?_ ?_ ⟨i + 1, by omega, .inr ⟨by omega, rfl⟩⟩
            · simp [slotsOk, St.get, lookS, hw1, -List.map_map, -List.map_set]
            · simp [-List.map_map, -List.map_set]
          · have h4' : ¬ ((i % 8 : Nat) : Int) = 4 := by omega
            have hg : gW n i l = l := by unfold gW; rw [if_neg hm0, if_neg (by omega)]
            simp only [go_sem, ↓reduceIte, Nat.reduceEqDiff, Nat.reduceLT, Nat.reduceAdd, Int.reduceEq, reduceCtorEq, hin', hiN', hwl, n0, z1, z2, z3, z4, tm, hm0', getD_str z5, ← hle, hn8', tm8, h4', y1, y2, y3, y4, getD_str y5, ← hbe]
            rw [hg] at hs0 hgl
            refine goCallD_pure0 (RXor_spec b l (by omega) (by omega)) ?_
            simp only [go_sem, ↓reduceIte, Nat.reduceEqDiff, Nat.reduceLT, Nat.reduceLeDiff, Nat.reduceAdd, reduceCtorEq, hwl, List.take_of_length_le, ← hs0]
            refine ⟨⟨by omega, by omega⟩, by kernel_rfl, ?_⟩
            refine again_ren (j - 1) ⟨[(0, .str key), (2, .ptr 0 0), (4, .ptr 2 0), (5, .i64 n), (25, .i64 N), (26, .i64 (i + 1 : Nat))], [some ⟨false, [.nilSlice, .nilSlice]⟩, some ⟨false, T.map .u8⟩, some ⟨false, [.slice 1 0 256 1, .slice 3 0 (i + 1) 1]⟩, some ⟨false, (wl key n (i + 1)).map .str⟩]⟩ [0, 1, 2, 5] (by omega) rfl (by simp) rfl (by decide) ?_ ?_ ⟨i + 1, by omega, .inr ⟨by omega, rfl⟩⟩
            · simp [slotsOk, St.get, lookS, hw1, -List.map_map, -List.map_set]
            · simp [-List.map_map, -List.map_set]
        · have hn8' : ¬ (n : Int) = 8 := by omega
          have hg : gW n i l = l := by unfold gW; rw [if_neg hm0, if_neg (by omega)]
          simp only [go_sem, ↓reduceIte, Nat.reduceEqDiff, Nat.reduceLT, Nat.reduceAdd, reduceCtorEq, hin', hiN', hwl, n0, z1, z2, z3, z4, tm, hm0', getD_str z5, ← hle, hn8', y1, y2, y3, y4, getD_str y5, ← hbe]
          rw [hg] at hs0 hgl
          refine goCallD_pure0 (RXor_spec b l (by omega) (by omega)) ?_
          simp only [go_sem, ↓reduceIte, Nat.reduceEqDiff, Nat.reduceLT, Nat.reduceLeDiff, Nat.reduceAdd, reduceCtorEq, hwl, List.take_of_length_le, ← hs0]
          refine ⟨⟨by omega, by omega⟩, by kernel_rfl, ?_⟩
          refine again_ren (j - 1) ⟨[(0, .str key), (2, .ptr 0 0), (4, .ptr 2 0), (5, .i64 n), (25, .i64 N), (26, .i64 (i + 1 : Nat))], [some ⟨false, [.nilSlice, .nilSlice]⟩, some ⟨false, T.map .u8⟩, some ⟨false, [.slice 1 0 256 1, .slice 3 0 (i + 1) 1]⟩, some ⟨false, (wl key n (i + 1)).map .str⟩]⟩ [0, 1, 2, 5] (by omega) rfl (by simp) rfl (by decide) ?_ ?_ ⟨i + 1, by omega, .inr ⟨by omega, rfl⟩⟩
          · simp [slotsOk, St.get, lookS, hw1, -List.map_map, -List.map_set]
          · simp [-List.map_map, -List.map_set]
    · obtain rfl : i = N := by omega
      have hiN' : ¬ (i : Int) < (i : Int) := by omega
      simp only [go_sem, ↓reduceIte, Nat.reduceEqDiff, Nat.reduceLT, Nat.reduceAdd, reduceCtorEq, hiN']
      exact Fin.ren [1, 3] (by simp) (by simp) (by rfl) (by decide) (by simp [-List.map_map, -List.map_set]) (by simp [-List.map_map, -List.map_set])

end Go.Vm
end
section
namespace Go.Vm
open Go.Proofs
set_option maxRecDepth 20000
theorem wl_flat (key : List (BitVec 8)) (n : Nat) (hn : 0 < n) (hk : key.length = 4 * n) (i : Nat) : (wl key n i).flatten.length = 4 * i := by
  have h4 := wl_four key n hn hk i
  have hl := wl_length key n i
  generalize wl key n i = l at *
  subst hl
  induction l with
  | nil => rfl
  | cons x l ih => rw [List.flatten_cons, List.length_append, h4 x (by simp), ih (fun w hw => h4 w (by simp [hw])), List.length_cons]; omega
theorem wl_key (key : List (BitVec 8)) (n : Nat) (hk : key.length = 4 * n) (i : Nat) (hi : i ≤ n) : (wl key n i).flatten = key.take (4 * i) := by
  induction i with
  | zero => rfl
  | succ i ih =>
    rw [wl, if_pos (by omega), List.flatten_append, ih (by omega)]
    rw [show 4 * (i + 1) = 4 * i + 4 by omega, List.take_add]
    simp
theorem flat_at (l : List (List (BitVec 8))) (h4 : ∀ w ∈ l, w.length = 4) (i k : Nat) (hi : i < l.length) (hk : k < 4) : l.flatten.getD (4 * i + k) 0 = (l.getD i []).getD k 0 := by
  induction l generalizing i with
  | nil => simp at hi
  | cons x l ih =>
    have hx := h4 x (by simp)
    cases i with
    | zero => rw [List.flatten_cons, List.getD_eq_getElem?_getD, List.getElem?_append_left (by omega)]; simp [List.getD_eq_getElem?_getD]
    | succ i =>
      have hi' : i < l.length := by rw [List.length_cons] at hi; omega
      rw [List.flatten_cons, List.getD_eq_getElem?_getD, List.getElem?_append_right (by omega), hx, show 4 * (i + 1) + k - 4 = 4 * i + k by omega, ← List.getD_eq_getElem?_getD, ih (fun w hw => h4 w (by simp [hw])) i hi']
      simp
theorem flat_drop (l : List (List (BitVec 8))) (h4 : ∀ w ∈ l, w.length = 4) (i : Nat) (hi : i < l.length) : (l.flatten.drop (4 * i)).take 4 = l.getD i [] := by
  induction l generalizing i with
  | nil => simp at hi
  | cons x l ih =>
    have hx := h4 x (by simp)
    cases i with
    | zero => rw [List.flatten_cons, Nat.mul_zero, List.drop_zero, ← hx, List.take_left]; rfl
    | succ i =>
      have hi' : i < l.length := by rw [List.length_cons] at hi; omega
      rw [List.flatten_cons, show 4 * (i + 1) = 4 + 4 * i by omega, ← List.drop_drop, ← hx, List.drop_left, hx, ih (fun w hw => h4 w (by simp [hw])) i hi']
      simp
theorem four_of (l : List (BitVec 8)) (h : l.length = 4) : ∃ a b c d, l = [a, b, c, d] := by
  match l, h with
  | [a, b, c, d], _ => exact ⟨a, b, c, d, rfl⟩
theorem splice_four (w x y z a b c d : V) : splice [w, x, y, z] 0 [a, b, c, d] = [a, b, c, d] := rfl
set_option maxHeartbeats 4000000 in
theorem expand_spec (key : List (BitVec 8)) (n : Nat) (hn : n = 4 ∨ n = 8) (hk : key.length = 4 * n) : Spec0 Tryz.prog 139 [.ptr 0 0, .str key] [some ⟨false, (mkT 256).map .u8⟩] (.str (wl key n (4 * (n + 7))).flatten) [some ⟨false, (mkT 256).map .u8⟩] := by
  have e0 : w64 ((key.length : Int).tdiv 4) = (n : Int) := by rw [show (4 : Int) = ((4 : Nat) : Int) from rfl, tdiv_nat, w64_of (by omega) (by omega)]; omega
  have e1 : w64 ((n : Int) + 7) = ((n + 7 : Nat) : Int) := by rw [w64_of (by omega) (by omega)]; omega
  have e2 : w64 (4 * ((n + 7 : Nat) : Int)) = ((4 * (n + 7) : Nat) : Int) := by rw [w64_of (by omega) (by omega)]; omega
  have hw0 : (wl key n n).flatten = key := by rw [wl_key key n hk n (Nat.le_refl n), ← hk, List.take_length]
  generalize hN : 4 * (n + 7) = N at *
  have hT := T_sub
  have hTl := mkT_length 256
  generalize mkT 256 = T at *
  have hks : key.length ≤ 1000 := by omega
  have hnn : (n - 1) / n = 0 := by rcases hn with rfl | rfl <;> rfl
  refine spec0_of_vc (by kernel_rfl) (fn := Tryz.f139) Tryz.func139 rfl (by show 2 ≤ 117; decide) (go_start ?_)
  simp only [go_sem, ↓reduceIte, Nat.reduceEqDiff, Nat.reduceLT, Int.reduceLE, Int.reduceLT, Int.reduceEq, BitVec.reduceOfInt, Tryz.ntmps139, e0]
  refine ⟨by omega, ?_⟩
  refine go_loop (fun j st => ∃ i : Nat, i + j = N ∧ n ≤ i ∧ st = ⟨[(0, .ptr 0 0), (5, .i64 n), (6, .slice 1 0 (4 * i) 1), (7, .u8 (p2 ((i - 1) / n))), (8, .i64 i)], [some ⟨false, T.map .u8⟩, some ⟨false, (wl key n i).flatten.map .u8⟩]⟩) ?_ ?_
  · exact start_mk (N - n) ⟨[(0, .ptr 0 0), (5, .i64 n), (6, .slice 1 0 (4 * n) 1), (7, .u8 (p2 ((n - 1) / n))), (8, .i64 n)], [some ⟨false, T.map .u8⟩, some ⟨false, (wl key n n).flatten.map .u8⟩]⟩ (by simp [St.get, lookS, hnn, p2, hk]) rfl (by rw [hw0]; exact fun _ _ h => h) ⟨n, by omega, by omega, rfl⟩
  rintro j st ⟨i, hi, hni, rfl⟩ _
  have hwl := wl_length key n i
  have hw4 := wl_four key n (by omega) hk i
  have hfl := wl_flat key n (by omega) hk i
  have hw1 : w64 ((i : Int) + 1) = ((i + 1 : Nat) : Int) := by rw [w64_of (by omega) (by omega)]; omega
  by_cases hiN : i < N
  · have hiN' : (i : Int) < (N : Int) := by omega
    have z1 : w64 (((4 * i : Nat) : Int) - 4) = ((4 * (i - 1) : Nat) : Int) := by rw [w64_of (by omega) (by omega)]; omega
    have z2 : ((4 * (i - 1) : Nat) : Int) ≤ ((4 * i : Nat) : Int) := by omega
    have z4 : (0 : Int) ≤ ((4 * (i - 1) : Nat) : Int) := by omega
    have z5 : 4 * i - 4 * (i - 1) = 4 := by omega
    have z6 : (((4 * i : Nat) : Int) - ((4 * (i - 1) : Nat) : Int)).toNat = 4 := by omega
    have z7 : 4 * (i - 1) + 4 ≤ 4 * i := by omega
    have n0 : ¬ (n : Int) = 0 := by omega
    have tm : (i : Int).tmod (n : Int) = ((i % n : Nat) : Int) := rfl
    have hi1 : i - 1 < (wl key n i).length := by omega
    have hi2 : i - n < (wl key n i).length := by omega
    have hd := flat_drop (wl key n i) hw4 (i - 1) hi1
    have w1 := hw4 _ (getD_memL hi1)
    have w2 := hw4 _ (getD_memL hi2)
    have hfa := fun k hk => flat_at (wl key n i) hw4 (i - n) k hi2 hk
    obtain ⟨l, hle⟩ : ∃ l, l = (wl key n i).getD (i - 1) [] := ⟨_, rfl⟩
    obtain ⟨r, hre⟩ : ∃ r, r = (wl key n i).getD (i - n) [] := ⟨_, rfl⟩
    rw [← hle] at w1 hd
    rw [← hre] at w2 hfa
    have hs0 : wl key n (i + 1) = wl key n i ++ [xorB r (gW n i l)] := by rw [wl, if_neg (by omega), ← hle, ← hre]
    have hs1 : (wl key n (i + 1)).flatten = (wl key n i).flatten ++ xorB r (gW n i l) := by rw [hs0, List.flatten_append]; simp
    obtain ⟨a, b, c, d, rfl⟩ := four_of l w1
    obtain ⟨x0, x1, x2, x3, rfl⟩ := four_of r w2
    have hT' : ∀ b : BitVec 8, (T.map V.u8).getD b.toNat .junk = .u8 (subC b) := fun b => by rw [getD_u8 (by have := b.isLt; omega), hT]
    have hb1 : ∀ b : BitVec 8, (b.toNat : Int) < 256 := fun b => by have := b.isLt; omega
    have hb2 : ∀ b : BitVec 8, (0 : Int) ≤ (b.toNat : Int) := fun b => by omega
    have hb3 : ∀ b : BitVec 8, b.toNat < 512 := fun b => by have := b.isLt; omega
    have hb4 : ∀ b : BitVec 8, b.toNat < 256 := fun b => by have := b.isLt; omega
    generalize hfg : (wl key n i).flatten = w at *
    have y0 : w64 ((i : Int) - (n : Int)) = ((i - n : Nat) : Int) := by rw [w64_of (by omega) (by omega)]; omega
    have y1 : w64 (4 * ((i - n : Nat) : Int)) = ((4 * (i - n) : Nat) : Int) := by rw [w64_of (by omega) (by omega)]; omega
    have y2 : w64 (((4 * (i - n) : Nat) : Int) + 0) = ((4 * (i - n) : Nat) : Int) := by rw [w64_of (by omega) (by omega)]; omega
    have y3 : w64 (((4 * (i - n) : Nat) : Int) + 1) = ((4 * (i - n) + 1 : Nat) : Int) := by rw [w64_of (by omega) (by omega)]; omega
    have y4 : w64 (((4 * (i - n) : Nat) : Int) + 2) = ((4 * (i - n) + 2 : Nat) : Int) := by rw [w64_of (by omega) (by omega)]; omega
    have y5 : w64 (((4 * (i - n) : Nat) : Int) + 3) = ((4 * (i - n) + 3 : Nat) : Int) := by rw [w64_of (by omega) (by omega)]; omega
    have k0 : 4 * (i - n) < w.length := by omega
    have k1 : 4 * (i - n) < 4 * i := by omega
    have k2 : ((4 * (i - n) : Nat) : Int) < ((4 * i : Nat) : Int) := by omega
    have k3 : (0 : Int) ≤ ((4 * (i - n) : Nat) : Int) := by omega
    have g0 : w.getD (4 * (i - n)) 0 = x0 := hfa 0 (by decide)
    have hG : ∀ k, k < 4 → ∀ ys : List (BitVec 8), (List.map V.u8 (w ++ ys)).getD (4 * (i - n) + k) .junk = .u8 ([x0, x1, x2, x3].getD k 0) := by
      intro k hk ys
      have hlt : 4 * (i - n) + k < w.length := by omega
      rw [getD_u8 (by rw [List.length_append]; omega), List.getD_eq_getElem?_getD, List.getElem?_append_left hlt, ← List.getD_eq_getElem?_getD, hfa k hk]
    have g1 := hG 1 (by decide)
    have g2 := hG 2 (by decide)
    have g3 := hG 3 (by decide)
    have htk : w.take (4 * i) = w := List.take_of_length_le (by omega)
    have k4 : 4 * (i - n) + 1 < 4 * i := by omega
    have k5 : 4 * (i - n) + 2 < 4 * i := by omega
    have k6 : 4 * (i - n) + 3 < 4 * i := by omega
    by_cases hm0 : i % n = 0
    · have hm0' : ((i % n : Nat) : Int) = 0 := by omega
      have hq : (i - 1) / n = i / n - 1 := by rcases hn with rfl | rfl <;> omega
      have hq1 : i / n = (i / n - 1) + 1 := by rcases hn with rfl | rfl <;> omega
      have hp : p2 (i / n) = gmul (p2 (i / n - 1)) 2#8 := by rw [hq1]; rfl
      have hg : gW n i [a, b, c, d] = [subC b ^^^ p2 (i / n - 1), subC c, subC d, subC a] := by unfold gW; rw [if_pos hm0]; simp [subAll, xorB]
      rw [hq]
      simp only [go_sem, ↓reduceIte, Nat.reduceEqDiff, Nat.reduceLT, Nat.reduceAdd, Int.reduceLT, Int.reduceToNat, reduceCtorEq, e1, e2, hiN', hfl, z1, z2, z4, z6, z7, n0, tm, hm0', hd, splice_four]
      refine go_unroll 4 ?_
      simp only [go_sem, ↓reduceIte, Nat.reduceEqDiff, Nat.reduceLT, Nat.reduceLeDiff, Nat.reduceAdd, Nat.reduceSub, Int.reduceLE, Int.reduceLT, Int.reduceToNat, Int.reduceAdd, Int.reduceNeg, BitVec.reduceOfInt, reduceCtorEq, hT', hb1, hb2, hb3, hTl]
      refine ⟨by kernel_rfl, by kernel_rfl, by kernel_rfl, ?_⟩
      refine goCall_pure0 (Mul_spec _ _) ?_
      simp only [go_sem, ↓reduceIte, Nat.reduceEqDiff, Nat.reduceLT, Nat.reduceAdd, ← hp]
      refine go_unroll 5 ?_
      simp only [go_sem, ↓reduceIte, Nat.reduceEqDiff, Nat.reduceLT, Nat.reduceLeDiff, Nat.reduceAdd, Nat.reduceSub, Int.reduceLE, Int.reduceLT, Int.reduceToNat, Int.reduceAdd, Int.reduceNeg, reduceCtorEq, y0, y1, y2, y3, y4, y5, k1, k2, k3, getD_u8 k0, g0, hfl, List.append_assoc, g1, g2, g3, List.take_of_length_le]
      refine ⟨⟨by omega, by omega⟩, ⟨by omega, by omega⟩, by omega, ⟨by omega, by omega⟩, ⟨by omega, by omega⟩, by omega, ⟨by omega, by omega⟩, ⟨by omega, by omega⟩, by omega, ⟨by omega, by omega⟩, ?_⟩
      refine again_ren (j - 1) ⟨[(0, .ptr 0 0), (5, .i64 n), (6, .slice 1 0 (4 * (i + 1 : Nat)) 1), (7, .u8 (p2 (((i + 1 : Nat) - 1) / n))), (8, .i64 (i + 1 : Nat))], [some ⟨false, T.map .u8⟩, some ⟨false, (wl key n (i + 1 : Nat)).flatten.map .u8⟩]⟩ [0, 10] (by omega) rfl (by simp) rfl (by decide) ?_ ?_ ⟨i + 1, by omega, by omega, rfl⟩
      · rw [show (i + 1 - 1) / n = i / n by rw [Nat.add_sub_cancel]]
        simp [slotsOk, St.get, lookS, hw1, hp, Nat.mul_add, -List.map_map, -List.map_set]
      · rw [hs1, hg]
        simp [xorB, -List.map_map, -List.map_set]
    · have hm0' : ¬ ((i % n : Nat) : Int) = 0 := by omega
      have hq : (i - 1) / n = i / n := by rcases hn with rfl | rfl <;> omega
      rw [hq]
      by_cases hn8 : n = 8
      · have hn8' : ((n : Int) = 8) = True := eq_true (by omega)
        by_cases h4 : i % n = 4
        · have h4' : ((i % n : Nat) : Int) = 4 := by omega
          have hg : gW n i [a, b, c, d] = [subC a, subC b, subC c, subC d] := by unfold gW; rw [if_neg hm0, if_pos ⟨hn8, hn8 ▸ h4⟩]; simp [subAll]
          simp only [go_sem, ↓reduceIte, Nat.reduceEqDiff, Nat.reduceLT, Nat.reduceAdd, Int.reduceEq, reduceCtorEq, e1, e2, hiN', hfl, z1, z2, z4, z6, z7, n0, tm, hd, splice_four, hn8', h4']
          refine go_unroll 5 ?_
          simp only [go_sem, ↓reduceIte, Nat.reduceEqDiff, Nat.reduceLT, Nat.reduceLeDiff, Nat.reduceAdd, Nat.reduceSub, Int.reduceLE, Int.reduceLT, Int.reduceToNat, Int.reduceAdd, Int.reduceNeg, reduceCtorEq, hT', hb1, hb2, hb3, hTl]
          refine go_unroll 5 ?_
          simp only [go_sem, ↓reduceIte, Nat.reduceEqDiff, Nat.reduceLT, Nat.reduceLeDiff, Nat.reduceAdd, Nat.reduceSub, Int.reduceLE, Int.reduceLT, Int.reduceToNat, Int.reduceAdd, Int.reduceNeg, reduceCtorEq, y0, y1, y2, y3, y4, y5, k1, k2, k3, getD_u8 k0, g0, hfl, List.append_assoc, g1, g2, g3, List.take_of_length_le]
          refine ⟨⟨by omega, by omega⟩, ⟨by omega, by omega⟩, by omega, ⟨by omega, by omega⟩, ⟨by omega, by omega⟩, by omega, ⟨by omega, by omega⟩, ⟨by omega, by omega⟩, by omega, ⟨by omega, by omega⟩, ?_⟩
          refine again_ren (j - 1) ⟨[(0, .ptr 0 0), (5, .i64 n), (6, .slice 1 0 (4 * (i + 1 : Nat)) 1), (7, .u8 (p2 (((i + 1 : Nat) - 1) / n))), (8, .i64 (i + 1 : Nat))], [some ⟨false, T.map .u8⟩, some ⟨false, (wl key n (i + 1 : Nat)).flatten.map .u8⟩]⟩ [0, 10] (by omega) rfl (by simp) rfl (by decide) ?_ ?_ ⟨i + 1, by omega, by omega, rfl⟩
          · rw [show (i + 1 - 1) / n = i / n by rw [Nat.add_sub_cancel]]
            simp [slotsOk, St.get, lookS, hw1, List.length_nil, Nat.mul_add, -List.map_map, -List.map_set]
          · rw [hs1, hg]
            simp [xorB, -List.map_map, -List.map_set]
        · have h4' : ¬ ((i % n : Nat) : Int) = 4 := by omega
          have hg : gW n i [a, b, c, d] = [a, b, c, d] := by unfold gW; rw [if_neg hm0, if_neg (fun h => h4 (by rw [hn8]; exact h.2))]
          simp only [go_sem, ↓reduceIte, Nat.reduceEqDiff, Nat.reduceLT, Nat.reduceAdd, reduceCtorEq, e1, e2, hiN', hfl, z1, z2, z4, z6, z7, n0, tm, hm0', hd, splice_four, hn8', h4']
          refine go_unroll 5 ?_
          simp only [go_sem, ↓reduceIte, Nat.reduceEqDiff, Nat.reduceLT, Nat.reduceLeDiff, Nat.reduceAdd, Nat.reduceSub, Int.reduceLE, Int.reduceLT, Int.reduceToNat, Int.reduceAdd, Int.reduceNeg, reduceCtorEq, y0, y1, y2, y3, y4, y5, k1, k2, k3, getD_u8 k0, g0, hfl, List.append_assoc, g1, g2, g3, List.take_of_length_le]
          refine ⟨⟨by omega, by omega⟩, ⟨by omega, by omega⟩, by omega, ⟨by omega, by omega⟩, ⟨by omega, by omega⟩, by omega, ⟨by omega, by omega⟩, ⟨by omega, by omega⟩, by omega, ⟨by omega, by omega⟩, ?_⟩
          refine again_ren (j - 1) ⟨[(0, .ptr 0 0), (5, .i64 n), (6, .slice 1 0 (4 * (i + 1 : Nat)) 1), (7, .u8 (p2 (((i + 1 : Nat) - 1) / n))), (8, .i64 (i + 1 : Nat))], [some ⟨false, T.map .u8⟩, some ⟨false, (wl key n (i + 1 : Nat)).flatten.map .u8⟩]⟩ [0, 10] (by omega) rfl (by simp) rfl (by decide) ?_ ?_ ⟨i + 1, by omega, by omega, rfl⟩
          · rw [show (i + 1 - 1) / n = i / n by rw [Nat.add_sub_cancel]]
            simp [slotsOk, St.get, lookS, hw1, List.length_nil, Nat.mul_add, -List.map_map, -List.map_set]
          · rw [hs1, hg]
            simp [xorB, -List.map_map, -List.map_set]
      · have hn8' : ¬ (n : Int) = 8 := by omega
        have hg : gW n i [a, b, c, d] = [a, b, c, d] := by unfold gW; rw [if_neg hm0, if_neg (fun h => hn8 h.1)]
        simp only [go_sem, ↓reduceIte, Nat.reduceEqDiff, Nat.reduceLT, Nat.reduceAdd, reduceCtorEq, e1, e2, hiN', hfl, z1, z2, z4, z6, z7, n0, tm, hm0', hd, splice_four, hn8']
        refine go_unroll 5 ?_
        simp only [go_sem, ↓reduceIte, Nat.reduceEqDiff, Nat.reduceLT, Nat.reduceLeDiff, Nat.reduceAdd, Nat.reduceSub, Int.reduceLE, Int.reduceLT, Int.reduceToNat, Int.reduceAdd, Int.reduceNeg, reduceCtorEq, y0, y1, y2, y3, y4, y5, k1, k2, k3, getD_u8 k0, g0, hfl, List.append_assoc, g1, g2, g3, List.take_of_length_le]
        refine ⟨⟨by omega, by omega⟩, ⟨by omega, by omega⟩, by omega, ⟨by omega, by omega⟩, ⟨by omega, by omega⟩, by omega, ⟨by omega, by omega⟩, ⟨by omega, by omega⟩, by omega, ⟨by omega, by omega⟩, ?_⟩
        refine again_ren (j - 1) ⟨[(0, .ptr 0 0), (5, .i64 n), (6, .slice 1 0 (4 * (i + 1 : Nat)) 1), (7, .u8 (p2 (((i + 1 : Nat) - 1) / n))), (8, .i64 (i + 1 : Nat))], [some ⟨false, T.map .u8⟩, some ⟨false, (wl key n (i + 1 : Nat)).flatten.map .u8⟩]⟩ [0, 10] (by omega) rfl (by simp) rfl (by decide) ?_ ?_ ⟨i + 1, by omega, by omega, rfl⟩
        · rw [show (i + 1 - 1) / n = i / n by rw [Nat.add_sub_cancel]]
          simp [slotsOk, St.get, lookS, hw1, List.length_nil, Nat.mul_add, -List.map_map, -List.map_set]
        · rw [hs1, hg]
          simp [xorB, -List.map_map, -List.map_set]
  · obtain rfl : i = N := by omega
    have hiN' : ¬ (i : Int) < (i : Int) := by omega
    simp only [go_sem, ↓reduceIte, Nat.reduceEqDiff, Nat.reduceLT, reduceCtorEq, e1, e2, hiN', hfl, List.take_of_length_le]
    exact Fin.ren [0] (by simp) (by simp) (by rfl) (by decide) (by simp [-List.map_map, -List.map_set]) (by simp [-List.map_map, -List.map_set])
end Go.Vm
end
section
namespace Go.Vm
open Go.Proofs
set_option maxRecDepth 20000
theorem isKey_spec (key : List (BitVec 8)) : PureFn Tryz.prog 137 [.str key] (.bool (decide (key.length = 16 ∨ key.length = 32))) := by
  by_cases h16 : key.length = 16
  · have h1 : (key.length : Int) = 16 := by omega
    have hd : decide (key.length = 16 ∨ key.length = 32) = true := by simp [h16]
    rw [hd]
    refine pure_of_vc (by kernel_rfl) (fn := Tryz.f137) (by kernel_rfl) Tryz.func137 rfl (by show 1 ≤ 11; decide) (by simp [lows, V.low]) (by simp [V.low]) (go_start ?_)
    simp only [go_sem, ↓reduceIte, Nat.reduceEqDiff, Nat.reduceLT, reduceCtorEq, Tryz.ntmps137, Tryz.results137, h1]
  · have h1 : ¬ (key.length : Int) = 16 := by omega
    by_cases h32 : key.length = 32
    · have h2 : (key.length : Int) = 32 := by omega
      have h3 : ¬ (32 : Int) = 16 := by decide
      have hd : decide (key.length = 16 ∨ key.length = 32) = true := by simp [h32]
      rw [hd]
      refine pure_of_vc (by kernel_rfl) (fn := Tryz.f137) (by kernel_rfl) Tryz.func137 rfl (by show 1 ≤ 11; decide) (by simp [lows, V.low]) (by simp [V.low]) (go_start ?_)
      simp only [go_sem, ↓reduceIte, Nat.reduceEqDiff, Nat.reduceLT, reduceCtorEq, Tryz.ntmps137, Tryz.results137, h2, h3]
    · have h2 : ¬ (key.length : Int) = 32 := by omega
      have hd : decide (key.length = 16 ∨ key.length = 32) = false := by simp [h16, h32]
      rw [hd]
      refine pure_of_vc (by kernel_rfl) (fn := Tryz.f137) (by kernel_rfl) Tryz.func137 rfl (by show 1 ≤ 11; decide) (by simp [lows, V.low]) (by simp [V.low]) (go_start ?_)
      simp only [go_sem, ↓reduceIte, Nat.reduceEqDiff, Nat.reduceLT, reduceCtorEq, Tryz.ntmps137, Tryz.results137, h1, h2]
end Go.Vm
end
section
namespace Go.Vm
open Go.Proofs Go.RowKit
theorem Join_at (us : List (List (BitVec 8))) (o k : Nat) (ws : List (List (BitVec 8))) (hws : ws = (us.drop o).take k) (hok : o + k ≤ us.length) (h0 : 0 < k) (hl : k ≤ 1000) (hf : ws.flatten.length ≤ 100000) : Spec0 Tryz.prog 78 [.slice 0 o k 1, .str []] [some ⟨false, us.map .str⟩] (.str ws.flatten) [some ⟨false, us.map .str⟩] := by
  have hwl : ws.length = k := by rw [hws, List.length_take, List.length_drop]; omega
  have hat : ∀ j : Nat, j < k → ws[j]? = us[o + j]? := fun j hj => by rw [hws, List.getElem?_take_of_lt hj, List.getElem?_drop]
  refine spec0_of_below (by simp [V.low]) fun ρ w rargs hr hm => ?_
  unfold VRs at hr
  obtain ⟨r1, rs, e1, h1, hr⟩ := hr
  unfold VRs at hr
  obtain ⟨r2, rs2, e2, h2, hr⟩ := hr
  unfold VRs at hr
  unfold VR at h1 h2
  obtain ⟨_, a, cap, rfl, hcap, ha⟩ := h1
  obtain ⟨b, rfl, hb⟩ := h2
  subst hr e2
  have har : rargs = #[.slice (some a) k cap, .string b] := by cases rargs; simp_all
  subst har
  have hb0 : b = ⟨#[]⟩ := bytesOf_inj hb
  subst hb0
  obtain ⟨ha, hth⟩ := ha (by omega)
  subst ha
  have hB : getH [some (⟨false, us.map V.str⟩ : Blk)] 0 = some ⟨false, us.map V.str⟩ := rfl
  have hcells : ∀ (j : Nat) x, (ws.map strOf)[j]? = some x → w.cell? ⟨(ρ 0).1, (ρ 0).2 + o + j, none⟩ = some (.string x) := by
    intro j x hx
    rw [List.getElem?_map] at hx
    obtain ⟨s, hs, rfl⟩ := Option.map_eq_some_iff.1 hx
    have hjk : j < k := by
      have := (List.getElem?_eq_some_iff.1 hs).1
      omega
    rw [hat j hjk] at hs
    obtain ⟨r, g1, g2⟩ := hm.cell 0 _ hB (o + j) (.str s) (by rw [List.getElem?_map, hs]; rfl)
    unfold VR at g2
    obtain ⟨c, rfl, hc⟩ := g2
    rw [Nat.add_assoc, g1, ← hc, strOf_bytesOf]
  have hfl := flat_of ws
  have hlen := congrArg List.length hfl
  rw [List.length_map] at hlen
  have hj := shelf_strings_Join (ρ 0).1 ((ρ 0).2 + o) cap (ws.map strOf) ⟨#[]⟩ w hcells (hm.lt 0 _ hB) (by rw [List.length_map]; omega) (by rw [List.length_map, hwl]; exact hcap) (by
    rw [show (⟨#[]⟩ : ByteArray).data.toList = [] from rfl, join_flat, hlen]; omega)
  rw [List.length_map, hwl, show (⟨#[]⟩ : ByteArray).data.toList = [] from rfl, join_flat] at hj
  refine hj.mono ?_
  rintro e w' ⟨rfl, hbl⟩
  refine ⟨_, rfl, ?_, hbl⟩
  unfold VR
  exact ⟨_, rfl, hfl⟩
theorem flat_dropAll (l : List (List (BitVec 8))) (h4 : ∀ w ∈ l, w.length = 4) (a : Nat) : (l.drop a).flatten = l.flatten.drop (4 * a) := by
  induction l generalizing a with
  | nil => simp
  | cons x l ih =>
    have hx := h4 x (by simp)
    cases a with
    | zero => rfl
    | succ a =>
      rw [List.drop_succ_cons, ih (fun w hw => h4 w (by simp [hw])), List.flatten_cons, show 4 * (a + 1) = 4 + 4 * a by omega, ← List.drop_drop]
      rw [← hx, List.drop_left]
theorem flat_takeAll (l : List (List (BitVec 8))) (h4 : ∀ w ∈ l, w.length = 4) (a : Nat) : (l.take a).flatten = l.flatten.take (4 * a) := by
  induction l generalizing a with
  | nil => simp
  | cons x l ih =>
    have hx := h4 x (by simp)
    cases a with
    | zero => rfl
    | succ a =>
      rw [List.take_succ_cons, List.flatten_cons, ih (fun w hw => h4 w (by simp [hw])), List.flatten_cons, show 4 * (a + 1) = x.length + 4 * a by omega, List.take_length_add_append]
theorem key_spec (us : List (List (BitVec 8))) (S : List (BitVec 8)) (i m : Nat) (hm : us.length = m) (hml : m ≤ 1000) (hi : 4 * i + 4 ≤ m) (h4 : ∀ w ∈ us, w.length = 4) : Spec0 Tryz.prog 68 [.agg [.slice 0 0 256 1, .slice 1 0 m 1], .i64 i] [some ⟨false, S.map .u8⟩, some ⟨false, us.map .str⟩] (.str ((us.flatten.drop (16 * i)).take 16)) [some ⟨false, S.map .u8⟩, some ⟨false, us.map .str⟩] := by
  have m1 : w64 (4 * (i : Int)) = ((4 * i : Nat) : Int) := by rw [w64_of (by omega) (by omega)]; omega
  have m2 : w64 (((4 * i : Nat) : Int) + 4) = ((4 * i + 4 : Nat) : Int) := by rw [w64_of (by omega) (by omega)]; omega
  have m3 : (((4 * i + 4 : Nat) : Int) - ((4 * i : Nat) : Int)).toNat = 4 := by omega
  have m4 : (0 : Int) ≤ ((4 * i : Nat) : Int) := by omega
  have m5 : ((4 * i : Nat) : Int) ≤ ((4 * i + 4 : Nat) : Int) := by omega
  have m6 : ((4 * i + 4 : Nat) : Int) ≤ (m : Int) := by omega
  have hfl : ((us.drop (4 * i)).take 4).flatten = (us.flatten.drop (16 * i)).take 16 := by
    rw [flat_takeAll _ (fun w hw => h4 w (List.mem_of_mem_drop hw)), flat_dropAll us h4, show 4 * (4 * i) = 16 * i by omega]
  have hj := Join_at us (4 * i) 4 _ rfl (by omega) (by decide) (by decide) (by rw [hfl, List.length_take]; omega)
  rw [hfl] at hj
  refine spec0_of_vc (by kernel_rfl) (fn := Tryz.f68) Tryz.func68 rfl (by show 2 ≤ 14; decide) (go_start ?_)
  simp only [go_sem, ↓reduceIte, Nat.reduceEqDiff, Nat.reduceLT, Nat.reduceAdd, Tryz.ntmps68, m1, m2, m3, m4, m5, m6]
  refine goCall_mem [1] (hj) (by kernel_rfl) (by simp [-List.map_map, -List.map_set]) rfl (by simp [-List.map_map, -List.map_set]) (by decide) (by simp [-List.map_map, -List.map_set]) (by simp [-List.map_map, -List.map_set]) (by simp [-List.map_map, -List.map_set]) (by simp [-List.map_map, -List.map_set]) (by simp) ?_
  simp only [go_sem, ↓reduceIte, Nat.reduceLT, Nat.reduceAdd, Nat.reduceSub]
  exact Fin.ren [0, 1] (by simp) (by simp) (by rfl) (by decide) (by simp [-List.map_map, -List.map_set]) (by simp [-List.map_map, -List.map_set])
/-! The steps on a block of 16 bytes. -/
theorem add_spec (s k : List (BitVec 8)) (hs : s.length = 16) (hk : 16 ≤ k.length) (hk2 : k.length ≤ 1000) : Spec0 Tryz.prog 150 [.ptr 0 0, .str k] [some ⟨false, s.map .u8⟩] (.tup []) [some ⟨false, (xorB s k).map .u8⟩] := by
  have hx := Xor_spec s k (by omega) (by omega)
  have hl : (xorB s k).length = 16 := by rw [xorB_length]; omega
  have hsp : splice (s.map V.u8) 0 (List.take 16 (List.map V.u8 (xorB s k))) = (xorB s k).map V.u8 := by rw [List.take_of_length_le (by rw [List.length_map, hl]; exact Nat.le_refl _), splice_all _ _ (by rw [List.length_map, List.length_map, hl, hs])]
  refine spec0_of_vc (by kernel_rfl) (fn := Tryz.f150) Tryz.func150 rfl (by show 2 ≤ 14; decide) (go_start ?_)
  simp only [go_sem, ↓reduceIte, Nat.reduceEqDiff, Nat.reduceLT, Int.reduceLE, Int.reduceToNat, Int.reduceSub, reduceCtorEq, Tryz.ntmps150, hs, List.take_of_length_le]
  refine goCallD_pure0 (hx) ?_
  simp only [go_sem, ↓reduceIte, Nat.reduceEqDiff, Nat.reduceLT, hl, hs]
  refine ⟨by kernel_rfl, ?_⟩
  exact Fin.ren [0] (by simp) (by simp) (by rfl) (by decide) (by simp [-List.map_map, -List.map_set]) (by simp [-List.map_map, -List.map_set, hsp])
/-- The first i of one list, the others of another. -/
def mixT (a b : List (BitVec 8)) (i : Nat) : List (BitVec 8) := a.take i ++ b.drop i
theorem mixT_length (a b : List (BitVec 8)) (i : Nat) (h : a.length = b.length) : (mixT a b i).length = b.length := by
  unfold mixT; rw [List.length_append, List.length_take, List.length_drop]; omega
theorem mixT_next (a b : List (BitVec 8)) (i : Nat) (h : a.length = b.length) (hi : i < b.length) : (mixT a b i).set i (a.getD i 0) = mixT a b (i + 1) := by
  unfold mixT
  rw [List.set_append_right _ _ (by rw [List.length_take]; omega), List.length_take, show i - min i a.length = 0 by omega, List.drop_eq_getElem_cons hi, List.set_cons_zero, take_snoc (by omega), List.append_assoc]; rfl
theorem mixT_at (a b : List (BitVec 8)) (i k : Nat) (h : a.length = b.length) (hk : i ≤ k) (hkb : k < b.length) : (mixT a b i).getD k 0 = b.getD k 0 := by
  unfold mixT
  rw [List.getD_eq_getElem?_getD, List.getElem?_append_right (by rw [List.length_take]; omega), List.length_take, List.getElem?_drop, show i + (k - min i a.length) = k by omega, ← List.getD_eq_getElem?_getD]
theorem mixT_all (a b : List (BitVec 8)) (h : a.length = b.length) : mixT a b b.length = a := by
  unfold mixT; rw [List.drop_length, List.append_nil, ← h, List.take_length]
theorem getD_mapB (f : BitVec 8 → BitVec 8) (s : List (BitVec 8)) (i : Nat) (h : i < s.length) : (s.map f).getD i 0 = f (s.getD i 0) := by
  rw [List.getD_eq_getElem?_getD, List.getD_eq_getElem?_getD, List.getElem?_map, List.getElem?_eq_getElem h]; rfl
theorem through_spec (s T : List (BitVec 8)) (o : Nat) (f : BitVec 8 → BitVec 8) (hs : s.length = 16) (hT : T.length = 512) (ho : o ≤ 256) (hf : ∀ b : BitVec 8, T.getD (o + b.toNat) 0 = f b) : Spec0 Tryz.prog 151 [.ptr 0 0, .ptr 1 o] [some ⟨false, s.map .u8⟩, some ⟨false, T.map .u8⟩] (.tup []) [some ⟨false, (s.map f).map .u8⟩, some ⟨false, T.map .u8⟩] := by
  have hf' : ∀ b : BitVec 8, (T.map V.u8).getD (o + b.toNat) .junk = .u8 (f b) := fun b => by rw [getD_u8 (by have := b.isLt; omega), hf]
  have hb1 : ∀ b : BitVec 8, (b.toNat : Int) < 256 := fun b => by have := b.isLt; omega
  have hb2 : ∀ b : BitVec 8, (0 : Int) ≤ (b.toNat : Int) := fun b => by omega
  have hb3 : ∀ b : BitVec 8, o + b.toNat < 512 := fun b => by have := b.isLt; omega
  have hml : (s.map f).length = s.length := List.length_map ..
  refine spec0_of_vc (by kernel_rfl) (fn := Tryz.f151) Tryz.func151 rfl (by show 2 ≤ 23; decide) (go_start ?_)
  simp only [go_sem, ↓reduceIte, Nat.reduceLT, Nat.reduceAdd, Tryz.ntmps151]
  refine go_loop (fun ji st => ∃ i : Nat, i + ji = 16 ∧ st = ⟨[(0, .ptr 0 0), (1, .ptr 1 o), (6, .ptr 0 0), (7, .i64 i)], [some ⟨false, (mixT (s.map f) s i).map .u8⟩, some ⟨false, T.map .u8⟩]⟩) ?_ ?_
  · exact start_mk (16) ⟨[(0, .ptr 0 0), (1, .ptr 1 o), (6, .ptr 0 0), (7, .i64 (0 : Nat))], [some ⟨false, (mixT (s.map f) s (0 : Nat)).map .u8⟩, some ⟨false, T.map .u8⟩]⟩ (by simp [St.get, lookS, -List.map_set, -List.map_map]) rfl (fun _ _ h => h) ⟨0, by omega, rfl⟩
  rintro ji st ⟨i, hi, rfl⟩ _
  simp only [go_sem, ↓reduceIte, Nat.reduceEqDiff, Nat.reduceLT, Nat.reduceAdd, reduceCtorEq]
  have hl := mixT_length (s.map f) s i hml
  rw [hs] at hl
  by_cases h0 : i < 16
  · have h0' : (i : Int) < 16 := by omega
    have zi : (0 : Int) ≤ (i : Int) := by omega
    have ki : i < (mixT (s.map f) s i).length := by omega
    have ha := mixT_at (s.map f) s i i hml (Nat.le_refl _) (by omega)
    have hn := mixT_next (s.map f) s i hml (by omega)
    rw [getD_mapB f s i (by omega)] at hn
    simp only [go_sem, ↓reduceIte, Nat.reduceEqDiff, Nat.reduceLT, Nat.reduceLeDiff, Nat.reduceAdd, reduceCtorEq, h0', h0, zi, hl, hT, getD_u8 ki, ha, hf', hb1, hb2, hb3, hn]
    refine ⟨by kernel_rfl, by omega, by kernel_rfl, ?_⟩
    refine again_mk (ji - 1) ⟨[(0, .ptr 0 0), (1, .ptr 1 o), (6, .ptr 0 0), (7, .i64 (i + 1 : Nat))], [some ⟨false, (mixT (s.map f) s (i + 1 : Nat)).map .u8⟩, some ⟨false, T.map .u8⟩]⟩ (by omega) ?_ rfl (fun _ _ h => h) ⟨i + 1, by omega, rfl⟩
    have hw1 : w64 ((i : Int) + 1) = ((i + 1 : Nat) : Int) := by rw [w64_of (by omega) (by omega)]; omega
    simp [St.get, lookS, hw1, -List.map_set, -List.map_map]
  · obtain rfl : i = 16 := by omega
    have h0' : ¬ ((16 : Nat) : Int) < 16 := by omega
    have he := mixT_all (s.map f) s hml
    rw [hs] at he
    simp only [go_sem, ↓reduceIte, Int.reduceLT, he]
    exact Fin.ren [0, 1] (by simp) (by simp) (by rfl) (by decide) (by simp [-List.map_map, -List.map_set]) (by simp [-List.map_map, -List.map_set])
def mk16 (f : Nat → BitVec 8) : List (BitVec 8) := (List.range 16).map f
theorem mk16_length (f : Nat → BitVec 8) : (mk16 f).length = 16 := by unfold mk16; rw [List.length_map, List.length_range]
theorem mk16_getD (f : Nat → BitVec 8) (i : Nat) (h : i < 16) : (mk16 f).getD i 0 = f i := by
  unfold mk16
  rw [List.getD_eq_getElem?_getD, List.getElem?_map, List.getElem?_range h]; rfl
def rowsB (k : Nat) (s : List (BitVec 8)) : List (BitVec 8) := mk16 fun i => s.getD (i % 4 + 4 * ((i / 4 + k * (i % 4)) % 4)) 0
theorem rows_spec (s : List (BitVec 8)) (k : Nat) (hs : s.length = 16) (hk : k ≤ 3) : Spec0 Tryz.prog 152 [.ptr 0 0, .i64 k] [some ⟨false, s.map .u8⟩] (.tup []) [some ⟨false, (rowsB k s).map .u8⟩] := by
  have hml : (rowsB k s).length = s.length := by rw [hs]; exact mk16_length _
  have hsp : ∀ z : List V, z.length = 16 → splice z 0 (s.map V.u8) = s.map V.u8 := fun z hz => splice_all _ _ (by rw [List.length_map, hs, hz])
  have hsp' := hsp [.u8 0#8, .u8 0#8, .u8 0#8, .u8 0#8, .u8 0#8, .u8 0#8, .u8 0#8, .u8 0#8, .u8 0#8, .u8 0#8, .u8 0#8, .u8 0#8, .u8 0#8, .u8 0#8, .u8 0#8, .u8 0#8] rfl
  have htk : List.take 16 (s.map V.u8) = s.map V.u8 := List.take_of_length_le (by rw [List.length_map, hs]; exact Nat.le_refl _)
  refine spec0_of_vc (by kernel_rfl) (fn := Tryz.f152) Tryz.func152 rfl (by show 2 ≤ 34; decide) (go_start ?_)
  simp only [go_sem, ↓reduceIte, Nat.reduceEqDiff, Nat.reduceLT, Nat.reduceAdd, Tryz.ntmps152, hs, htk, hsp']
  refine go_loop (fun ji st => ∃ i : Nat, i + ji = 16 ∧ st = ⟨[(0, .ptr 0 0), (1, .i64 k), (4, .ptr 1 0), (11, .i64 i)], [some ⟨false, (mixT (rowsB k s) s i).map .u8⟩, some ⟨false, s.map .u8⟩]⟩) ?_ ?_
  · exact start_mk (16) ⟨[(0, .ptr 0 0), (1, .i64 k), (4, .ptr 1 0), (11, .i64 (0 : Nat))], [some ⟨false, (mixT (rowsB k s) s (0 : Nat)).map .u8⟩, some ⟨false, s.map .u8⟩]⟩ (by simp [St.get, lookS, -List.map_set, -List.map_map]) rfl (fun _ _ h => h) ⟨0, by omega, rfl⟩
  rintro ji st ⟨i, hi, rfl⟩ _
  simp only [go_sem, ↓reduceIte, Nat.reduceEqDiff, Nat.reduceLT, Nat.reduceAdd, Int.reduceEq, reduceCtorEq]
  have hl := mixT_length (rowsB k s) s i hml
  rw [hs] at hl
  by_cases h0 : i < 16
  · have h0' : (i : Int) < 16 := by omega
    have zi : (0 : Int) ≤ (i : Int) := by omega
    have hkr : k * (i % 4) ≤ 3 * 3 := Nat.mul_le_mul hk (by omega)
    have hn := mixT_next (rowsB k s) s i hml (by omega)
    have t1 : (i : Int).tmod 4 = ((i % 4 : Nat) : Int) := rfl
    have t2 : (i : Int).tdiv 4 = ((i / 4 : Nat) : Int) := rfl
    have t2' : w64 ((i / 4 : Nat) : Int) = ((i / 4 : Nat) : Int) := by rw [w64_of (by omega) (by omega)]
    have t3 : w64 ((k : Int) * ((i % 4 : Nat) : Int)) = ((k * (i % 4) : Nat) : Int) := by rw [show (k : Int) * ((i % 4 : Nat) : Int) = ((k * (i % 4) : Nat) : Int) from rfl, w64_of (by omega) (by omega)]
    have t4 : w64 (((i / 4 : Nat) : Int) + ((k * (i % 4) : Nat) : Int)) = ((i / 4 + k * (i % 4) : Nat) : Int) := by rw [w64_of (by omega) (by omega)]; omega
    have t5 : ((i / 4 + k * (i % 4) : Nat) : Int).tmod 4 = (((i / 4 + k * (i % 4)) % 4 : Nat) : Int) := rfl
    generalize hq : (i / 4 + k * (i % 4)) % 4 = q at *
    have t6 : w64 (4 * (q : Int)) = ((4 * q : Nat) : Int) := by rw [w64_of (by omega) (by omega)]; omega
    have t7 : w64 (((i % 4 : Nat) : Int) + ((4 * q : Nat) : Int)) = ((i % 4 + 4 * q : Nat) : Int) := by rw [w64_of (by omega) (by omega)]; omega
    have z1 : (0 : Int) ≤ ((i % 4 + 4 * q : Nat) : Int) := by omega
    have z2 : ((i % 4 + 4 * q : Nat) : Int) < 16 := by omega
    have z3 : i % 4 + 4 * q < 16 := by omega
    have z4 : i % 4 + 4 * q < s.length := by omega
    have hv : (rowsB k s).getD i 0 = s.getD (i % 4 + 4 * q) 0 := by unfold rowsB; rw [mk16_getD _ i h0, hq]
    rw [hv] at hn
    simp only [go_sem, ↓reduceIte, Nat.reduceEqDiff, Nat.reduceLT, Nat.reduceLeDiff, Nat.reduceAdd, reduceCtorEq, h0', zi, hl, hs, t1, t2, t2', t3, t4, t5, t6, t7, z1, z2, z3, getD_u8 z4, hn]
    refine ⟨by omega, by kernel_rfl, ?_⟩
    refine again_mk (ji - 1) ⟨[(0, .ptr 0 0), (1, .i64 k), (4, .ptr 1 0), (11, .i64 (i + 1 : Nat))], [some ⟨false, (mixT (rowsB k s) s (i + 1 : Nat)).map .u8⟩, some ⟨false, s.map .u8⟩]⟩ (by omega) ?_ rfl (fun _ _ h => h) ⟨i + 1, by omega, rfl⟩
    have hw1 : w64 ((i : Int) + 1) = ((i + 1 : Nat) : Int) := by rw [w64_of (by omega) (by omega)]; omega
    simp [St.get, lookS, hw1, -List.map_set, -List.map_map]
  · obtain rfl : i = 16 := by omega
    have h0' : ¬ ((16 : Nat) : Int) < 16 := by omega
    have he := mixT_all (rowsB k s) s hml
    rw [hs] at he
    simp only [go_sem, ↓reduceIte, Int.reduceLT, he]
    exact Fin.ren [0] (by simp) (by simp) (by rfl) (by decide) (by simp [-List.map_map, -List.map_set]) (by simp [-List.map_map, -List.map_set])
def mp (m s : List (BitVec 8)) (i k : Nat) : BitVec 8 := gmul (m.getD ((k + 4 - i % 4) % 4) 0) (s.getD (4 * (i / 4) + k) 0)
def colB (m s : List (BitVec 8)) : List (BitVec 8) := mk16 fun i => 0#8 ^^^ mp m s i 0 ^^^ mp m s i 1 ^^^ mp m s i 2 ^^^ mp m s i 3
theorem getD_set_self (l : List (BitVec 8)) (i : Nat) (x : BitVec 8) (h : i < l.length) : (l.set i x).getD i 0 = x := by
  rw [List.getD_eq_getElem?_getD, List.getElem?_set_self h]; rfl
theorem columns_spec (s : List (BitVec 8)) (m : List (BitVec 8)) (hs : s.length = 16) (hm : m.length = 4) : Spec0 Tryz.prog 153 [.ptr 0 0, .agg (m.map .u8)] [some ⟨false, s.map .u8⟩] (.tup []) [some ⟨false, (colB m s).map .u8⟩] := by
  have hml : (colB m s).length = s.length := by rw [hs]; exact mk16_length _
  have hsp' : splice [.u8 0#8, .u8 0#8, .u8 0#8, .u8 0#8, .u8 0#8, .u8 0#8, .u8 0#8, .u8 0#8, .u8 0#8, .u8 0#8, .u8 0#8, .u8 0#8, .u8 0#8, .u8 0#8, .u8 0#8, .u8 0#8] 0 (s.map V.u8) = s.map V.u8 := splice_all _ _ (by rw [List.length_map, hs]; rfl)
  have htk : List.take 16 (s.map V.u8) = s.map V.u8 := List.take_of_length_le (by rw [List.length_map, hs]; exact Nat.le_refl _)
  refine spec0_of_vc (by kernel_rfl) (fn := Tryz.f153) Tryz.func153 rfl (by show 2 ≤ 50; decide) (go_start ?_)
  simp only [go_sem, ↓reduceIte, Nat.reduceEqDiff, Nat.reduceLT, Nat.reduceAdd, reduceCtorEq, Tryz.ntmps153, hs, htk, hsp']
  refine go_loop (fun ji st => ∃ i : Nat, i + ji = 16 ∧ st = ⟨[(0, .ptr 0 0), (3, .ptr 1 0), (4, .ptr 2 0), (12, .i64 i)], [some ⟨false, (mixT (colB m s) s i).map .u8⟩, some ⟨false, m.map .u8⟩, some ⟨false, s.map .u8⟩]⟩) ?_ ?_
  · exact start_mk (16) ⟨[(0, .ptr 0 0), (3, .ptr 1 0), (4, .ptr 2 0), (12, .i64 (0 : Nat))], [some ⟨false, (mixT (colB m s) s (0 : Nat)).map .u8⟩, some ⟨false, m.map .u8⟩, some ⟨false, s.map .u8⟩]⟩ (by simp [St.get, lookS, -List.map_set, -List.map_map]) rfl (fun _ _ h => h) ⟨0, by omega, rfl⟩
  rintro ji st ⟨i, hi, rfl⟩ _
  simp only [go_sem, ↓reduceIte, Nat.reduceEqDiff, Nat.reduceLT, Int.reduceLT, Int.reduceEq, BitVec.reduceOfInt, reduceCtorEq]
  have hl := mixT_length (colB m s) s i hml
  rw [hs] at hl
  by_cases h0 : i < 16
  · have h0' : (i : Int) < 16 := by omega
    have zi : (0 : Int) ≤ (i : Int) := by omega
    have hn := mixT_next (colB m s) s i hml (by omega)
    have t1 : (i : Int).tmod 4 = ((i % 4 : Nat) : Int) := rfl
    have t2 : (i : Int).tdiv 4 = ((i / 4 : Nat) : Int) := rfl
    have t2' : w64 ((i / 4 : Nat) : Int) = ((i / 4 : Nat) : Int) := by rw [w64_of (by omega) (by omega)]
    have hv : (colB m s).getD i 0 = 0#8 ^^^ mp m s i 0 ^^^ mp m s i 1 ^^^ mp m s i 2 ^^^ mp m s i 3 := by unfold colB; rw [mk16_getD _ i h0]
    rw [hv] at hn
    have a0 : w64 ((0 : Int) - ((i % 4 : Nat) : Int)) = (0 : Int) - ((i % 4 : Nat) : Int) := w64_of (by omega) (by omega)
    have b0 : w64 ((0 : Int) - ((i % 4 : Nat) : Int) + 4) = ((4 - i % 4 : Nat) : Int) := by rw [w64_of (by omega) (by omega)]; omega
    have c0 : w64 (((4 * (i / 4) : Nat) : Int) + 0) = ((4 * (i / 4) : Nat) : Int) := by rw [w64_of (by omega) (by omega)]; omega
    have w0 : (((4 * (i / 4) : Nat) : Int) < 16) = True := eq_true (by omega)
    have x0 : (4 * (i / 4) < 16) = True := eq_true (by omega)
    have e0 : (s.map V.u8).getD (4 * (i / 4)) .junk = .u8 (s.getD (4 * (i / 4)) 0) := getD_u8 (by omega)
    have p0 : gmul (m.getD ((4 - i % 4) % 4) 0) (s.getD (4 * (i / 4)) 0) = mp m s i 0 := rfl
    have a1 : w64 ((1 : Int) - ((i % 4 : Nat) : Int)) = (1 : Int) - ((i % 4 : Nat) : Int) := w64_of (by omega) (by omega)
    have b1 : w64 ((1 : Int) - ((i % 4 : Nat) : Int) + 4) = ((5 - i % 4 : Nat) : Int) := by rw [w64_of (by omega) (by omega)]; omega
    have c1 : w64 (((4 * (i / 4) : Nat) : Int) + 1) = ((4 * (i / 4) + 1 : Nat) : Int) := by rw [w64_of (by omega) (by omega)]; omega
    have w1 : (((4 * (i / 4) + 1 : Nat) : Int) < 16) = True := eq_true (by omega)
    have x1 : (4 * (i / 4) + 1 < 16) = True := eq_true (by omega)
    have e1 : (s.map V.u8).getD (4 * (i / 4) + 1) .junk = .u8 (s.getD (4 * (i / 4) + 1) 0) := getD_u8 (by omega)
    have p1 : gmul (m.getD ((5 - i % 4) % 4) 0) (s.getD (4 * (i / 4) + 1) 0) = mp m s i 1 := rfl
    have a2 : w64 ((2 : Int) - ((i % 4 : Nat) : Int)) = (2 : Int) - ((i % 4 : Nat) : Int) := w64_of (by omega) (by omega)
    have b2 : w64 ((2 : Int) - ((i % 4 : Nat) : Int) + 4) = ((6 - i % 4 : Nat) : Int) := by rw [w64_of (by omega) (by omega)]; omega
    have c2 : w64 (((4 * (i / 4) : Nat) : Int) + 2) = ((4 * (i / 4) + 2 : Nat) : Int) := by rw [w64_of (by omega) (by omega)]; omega
    have w2 : (((4 * (i / 4) + 2 : Nat) : Int) < 16) = True := eq_true (by omega)
    have x2 : (4 * (i / 4) + 2 < 16) = True := eq_true (by omega)
    have e2 : (s.map V.u8).getD (4 * (i / 4) + 2) .junk = .u8 (s.getD (4 * (i / 4) + 2) 0) := getD_u8 (by omega)
    have p2 : gmul (m.getD ((6 - i % 4) % 4) 0) (s.getD (4 * (i / 4) + 2) 0) = mp m s i 2 := rfl
    have a3 : w64 ((3 : Int) - ((i % 4 : Nat) : Int)) = (3 : Int) - ((i % 4 : Nat) : Int) := w64_of (by omega) (by omega)
    have b3 : w64 ((3 : Int) - ((i % 4 : Nat) : Int) + 4) = ((7 - i % 4 : Nat) : Int) := by rw [w64_of (by omega) (by omega)]; omega
    have c3 : w64 (((4 * (i / 4) : Nat) : Int) + 3) = ((4 * (i / 4) + 3 : Nat) : Int) := by rw [w64_of (by omega) (by omega)]; omega
    have w3 : (((4 * (i / 4) + 3 : Nat) : Int) < 16) = True := eq_true (by omega)
    have x3 : (4 * (i / 4) + 3 < 16) = True := eq_true (by omega)
    have e3 : (s.map V.u8).getD (4 * (i / 4) + 3) .junk = .u8 (s.getD (4 * (i / 4) + 3) 0) := getD_u8 (by omega)
    have p3 : gmul (m.getD ((7 - i % 4) % 4) 0) (s.getD (4 * (i / 4) + 3) 0) = mp m s i 3 := rfl
    have r3 : ∀ k : Nat, ((k : Nat) : Int).tmod 4 = ((k % 4 : Nat) : Int) := fun k => rfl
    have r4 : w64 (4 * ((i / 4 : Nat) : Int)) = ((4 * (i / 4) : Nat) : Int) := by rw [w64_of (by omega) (by omega)]; omega
    have u1 : ∀ k : Nat, (((k % 4 : Nat) : Int) < 4) = True := fun k => eq_true (by omega)
    have u2 : ∀ k : Nat, ((0 : Int) ≤ (k : Int)) = True := fun k => eq_true (by omega)
    have u3 : ∀ k : Nat, (k % 4 < 4) = True := fun k => eq_true (by omega)
    have v1 : ∀ k : Nat, (m.map V.u8).getD (k % 4) .junk = .u8 (m.getD (k % 4) 0) := fun k => getD_u8 (by omega)
    have y1 : ∀ x : BitVec 8, (((mixT (colB m s) s i).set i x).map V.u8).getD i .junk = .u8 x := fun x => by rw [getD_u8 (by rw [List.length_set]; omega), getD_set_self _ _ _ (by omega)]
    simp only [go_sem, ↓reduceIte, Nat.reduceLeDiff, h0', zi, hl, t1, t2, t2']
    refine ⟨by omega, go_unroll 5 ?_⟩
    simp only [go_sem, ↓reduceIte, Nat.reduceEqDiff, Nat.reduceLT, Nat.reduceAdd, Nat.reduceSub, Int.reduceLT, Int.reduceEq, reduceCtorEq, a0, b0, c0, w0, x0, e0, r3, r4, u1, u2, u3, v1, y1, hl, h0', h0, hs, hm]
    refine goCallD_pure0 (Mul_spec _ _) ?_
    simp only [go_sem, ↓reduceIte, Nat.reduceEqDiff, Nat.reduceLT, Nat.reduceLeDiff, Nat.reduceAdd, Nat.reduceSub, Int.reduceLE, Int.reduceLT, Int.reduceAdd, Int.reduceEq, Int.reduceNeg, reduceCtorEq, p0, a1, b1, c1, w1, x1, e1, r3, r4, u1, u2, u3, v1, y1, List.set_set, hl, h0', h0, hs, hm]
    refine ⟨by omega, by kernel_rfl, ?_⟩
    refine goCallD_pure0 (Mul_spec _ _) ?_
    simp only [go_sem, ↓reduceIte, Nat.reduceEqDiff, Nat.reduceLT, Nat.reduceLeDiff, Nat.reduceAdd, Nat.reduceSub, Int.reduceLE, Int.reduceLT, Int.reduceAdd, Int.reduceEq, Int.reduceNeg, reduceCtorEq, p1, a2, b2, c2, w2, x2, e2, r3, r4, u1, u2, u3, v1, y1, List.set_set, hl, h0', h0, hs, hm]
    refine ⟨by omega, by kernel_rfl, ?_⟩
    refine goCallD_pure0 (Mul_spec _ _) ?_
    simp only [go_sem, ↓reduceIte, Nat.reduceEqDiff, Nat.reduceLT, Nat.reduceLeDiff, Nat.reduceAdd, Nat.reduceSub, Int.reduceLE, Int.reduceLT, Int.reduceAdd, Int.reduceEq, Int.reduceNeg, reduceCtorEq, p2, a3, b3, c3, w3, x3, e3, r3, r4, u1, u2, u3, v1, y1, List.set_set, hl, h0', h0, hs, hm]
    refine ⟨by omega, by kernel_rfl, ?_⟩
    refine goCallD_pure0 (Mul_spec _ _) ?_
    simp only [go_sem, ↓reduceIte, Nat.reduceEqDiff, Nat.reduceLT, Nat.reduceLeDiff, Nat.reduceAdd, Nat.reduceSub, Int.reduceLE, Int.reduceLT, Int.reduceAdd, Int.reduceNeg, reduceCtorEq, p3, u2, hn, List.set_set, hl, h0']
    refine ⟨by omega, by kernel_rfl, ?_⟩
    refine again_mk (ji - 1) ⟨[(0, .ptr 0 0), (3, .ptr 1 0), (4, .ptr 2 0), (12, .i64 (i + 1 : Nat))], [some ⟨false, (mixT (colB m s) s (i + 1 : Nat)).map .u8⟩, some ⟨false, m.map .u8⟩, some ⟨false, s.map .u8⟩]⟩ (by omega) ?_ rfl (fun _ _ h => h) ⟨i + 1, by omega, rfl⟩
    have hw1 : w64 ((i : Int) + 1) = ((i + 1 : Nat) : Int) := by rw [w64_of (by omega) (by omega)]; omega
    simp [St.get, lookS, hw1, -List.map_set, -List.map_map]
  · obtain rfl : i = 16 := by omega
    have h0' : ¬ ((16 : Nat) : Int) < 16 := by omega
    have he := mixT_all (colB m s) s hml
    rw [hs] at he
    simp only [go_sem, ↓reduceIte, Int.reduceLT, he]
    exact Fin.ren [0] (by simp) (by simp) (by rfl) (by decide) (by simp [-List.map_map, -List.map_set]) (by simp [-List.map_map, -List.map_set])
end Go.Vm
end
section
namespace Go.Vm
open Go.Proofs
set_option maxRecDepth 20000
/-- A block on its way in, behind the round i. -/
def encS (t K : List (BitVec 8)) (R : Nat) : Nat → List (BitVec 8)
  | 0 => xorB t K
  | i + 1 =>
    let s := rowsB 1 ((encS t K R i).map subC)
    xorB (if i + 2 < R then colB [2#8, 3#8, 1#8, 1#8] s else s) (K.drop (16 * (i + 1)))
theorem rowsB_length (k : Nat) (s : List (BitVec 8)) : (rowsB k s).length = 16 := mk16_length _
theorem colB_length (m s : List (BitVec 8)) : (colB m s).length = 16 := mk16_length _
theorem encS_length (t K : List (BitVec 8)) (R : Nat) (ht : t.length = 16) (hK : K.length = 16 * R) (i : Nat) (hi : i < R) : (encS t K R i).length = 16 := by
  cases i with
  | zero => rw [encS, xorB_length]; omega
  | succ i =>
    rw [encS]
    have h1 : (if i + 2 < R then colB [2#8, 3#8, 1#8, 1#8] (rowsB 1 ((encS t K R i).map subC)) else rowsB 1 ((encS t K R i).map subC)).length = 16 := by
      split
      · exact colB_length _ _
      · exact rowsB_length _ _
    rw [xorB_length, h1, List.length_drop]; omega
set_option maxHeartbeats 2000000 in
theorem Encrypt_spec (t K T : List (BitVec 8)) (R : Nat) (ht : t.length = 16) (hR : 2 ≤ R) (hR2 : R ≤ 20) (hK : K.length = 16 * R) (hT : T.length = 512) (hf : ∀ b : BitVec 8, T.getD (0 + b.toNat) 0 = subC b) : Spec0 Tryz.prog 141 [.ptr 0 0, .str t] [some ⟨false, [.ptr 1 0, .str K]⟩, some ⟨false, T.map .u8⟩] (.str (encS t K R (R - 1))) [some ⟨false, [.ptr 1 0, .str K]⟩, some ⟨false, T.map .u8⟩] := by
  have h0 := add_spec t K ht (by omega) (by omega)
  have hsp : splice [.u8 0#8, .u8 0#8, .u8 0#8, .u8 0#8, .u8 0#8, .u8 0#8, .u8 0#8, .u8 0#8, .u8 0#8, .u8 0#8, .u8 0#8, .u8 0#8, .u8 0#8, .u8 0#8, .u8 0#8, .u8 0#8] 0 (t.map V.u8) = t.map V.u8 := splice_all _ _ (by rw [List.length_map, ht]; rfl)
  have htk : List.take 16 (t.map V.u8) = t.map V.u8 := List.take_of_length_le (by rw [List.length_map, ht]; exact Nat.le_refl _)
  have h16 : (16 : Int) ≤ (K.length : Int) := by omega
  refine spec0_of_vc (by kernel_rfl) (fn := Tryz.f141) Tryz.func141 rfl (by show 2 ≤ 40; decide) (go_start ?_)
  simp only [go_sem, ↓reduceIte, Nat.reduceEqDiff, Nat.reduceLT, Nat.reduceLeDiff, Nat.reduceAdd, reduceCtorEq, Tryz.ntmps141, ht, hsp, htk]
  refine goCall_mem [3] (h0) (by kernel_rfl) (by simp [-List.map_map, -List.map_set]) rfl (by simp [-List.map_map, -List.map_set]) (by decide) (by simp [-List.map_map, -List.map_set]) (by simp [-List.map_map, -List.map_set]) (by simp [-List.map_map, -List.map_set]) (by simp [-List.map_map, -List.map_set]) (by simp) ?_
  simp only [go_sem, ↓reduceIte, Nat.reduceEqDiff, Nat.reduceLT, Nat.reduceAdd, Nat.reduceSub, Int.reduceLE, Int.reduceToNat]
  refine ⟨h16, ?_⟩
  refine go_loop (fun j st => ∃ i : Nat, i + j = R - 1 ∧ st = ⟨[(0, .ptr 0 0), (5, .str (K.drop (16 * (i + 1)))), (6, .ptr 2 0)], [some ⟨false, [.ptr 1 0, .str K]⟩, some ⟨false, T.map .u8⟩, some ⟨false, (encS t K R i).map .u8⟩]⟩) ?_ ?_
  · exact start_ren (R - 1) ⟨[(0, .ptr 0 0), (5, .str (K.drop (16 * (0 + 1)))), (6, .ptr 2 0)], [some ⟨false, [.ptr 1 0, .str K]⟩, some ⟨false, T.map .u8⟩, some ⟨false, (encS t K R 0).map .u8⟩]⟩ [0, 1, 3] rfl (by simp) rfl (by decide) (by simp [slotsOk, St.get, lookS, -List.map_map, -List.map_set]) (by simp [encS, -List.map_map, -List.map_set]) ⟨0, by omega, rfl⟩
  rintro j st ⟨i, hi, rfl⟩ _
  have hel := encS_length t K R ht hK i (by omega)
  have hdl : (K.drop (16 * (i + 1))).length = 16 * (R - (i + 1)) := by rw [List.length_drop]; omega
  have hdd : (K.drop (16 * (i + 1))).drop 16 = K.drop (16 * (i + 1 + 1)) := by rw [List.drop_drop]; rfl
  by_cases hl : i < R - 1
  · obtain ⟨D, hD⟩ : ∃ D, D = K.drop (16 * (i + 1)) := ⟨_, rfl⟩
    have hes : encS t K R (i + 1) = xorB (if i + 2 < R then colB [2#8, 3#8, 1#8, 1#8] (rowsB 1 ((encS t K R i).map subC)) else rowsB 1 ((encS t K R i).map subC)) D := by rw [hD]; rfl
    rw [← hD] at hdl hdd
    have hne : (D = []) = False := eq_false (fun h => by rw [h] at hdl; simp at hdl; omega)
    have hth := through_spec (encS t K R i) T 0 subC hel hT (by omega) hf
    have hro := rows_spec ((encS t K R i).map subC) 1 (by rw [List.length_map, hel]) (by decide)
    generalize hs1 : (encS t K R i).map subC = s1 at *
    have hco := columns_spec (rowsB 1 s1) [2#8, 3#8, 1#8, 1#8] (rowsB_length _ _) rfl
    have g1 : 16 * (R - (i + 1)) ≤ 1000 := by omega
    have g2 : (16 : Int) ≤ (D.length : Int) := by omega
    by_cases hlast : i + 2 < R
    · have hl' : (16 : Int) < (D.length : Int) := by omega
      have had := add_spec (colB [2#8, 3#8, 1#8, 1#8] (rowsB 1 s1)) D (colB_length _ _) (by omega) (by omega)
      have hn : encS t K R (i + 1) = xorB (colB [2#8, 3#8, 1#8, 1#8] (rowsB 1 s1)) D := by rw [hes, if_pos hlast]
      rw [← hn] at had
      simp only [go_sem, ↓reduceIte, Nat.reduceEqDiff, Nat.reduceLT, Nat.reduceAdd, reduceCtorEq, ← hD, hne]
      refine goCall_mem [2, 1] (hth) (by kernel_rfl) (by simp [-List.map_map, -List.map_set]) rfl (by simp [-List.map_map, -List.map_set]) (by decide) (by simp [-List.map_map, -List.map_set]) (by simp [-List.map_map, -List.map_set]) (by simp [-List.map_map, -List.map_set]) (by simp [-List.map_map, -List.map_set]) (by simp) ?_
      simp only [go_sem, ↓reduceIte, Nat.reduceEqDiff, Nat.reduceLT, Nat.reduceAdd, Nat.reduceSub, reduceCtorEq]
      refine goCall_mem [2] (hro) (by kernel_rfl) (by simp [-List.map_map, -List.map_set]) rfl (by simp [-List.map_map, -List.map_set]) (by decide) (by simp [-List.map_map, -List.map_set]) (by simp [-List.map_map, -List.map_set]) (by simp [-List.map_map, -List.map_set]) (by simp [-List.map_map, -List.map_set]) (by simp) ?_
      simp only [go_sem, ↓reduceIte, Nat.reduceEqDiff, Nat.reduceLT, Nat.reduceLeDiff, Nat.reduceAdd, Nat.reduceSub, Int.reduceLE, Int.reduceLT, BitVec.reduceOfInt, reduceCtorEq, hl']
      refine goCall_mem [2] (hco) (by kernel_rfl) (by simp [-List.map_map, -List.map_set]) rfl (by simp [-List.map_map, -List.map_set]) (by decide) (by simp [-List.map_map, -List.map_set]) (by simp [-List.map_map, -List.map_set]) (by simp [-List.map_map, -List.map_set]) (by simp [-List.map_map, -List.map_set]) (by simp) ?_
      simp only [go_sem, ↓reduceIte, Nat.reduceEqDiff, Nat.reduceLT, Nat.reduceAdd, Nat.reduceSub, reduceCtorEq]
      refine goCall_mem [2] (had) (by kernel_rfl) (by simp [-List.map_map, -List.map_set]) rfl (by simp [-List.map_map, -List.map_set]) (by decide) (by simp [-List.map_map, -List.map_set]) (by simp [-List.map_map, -List.map_set]) (by simp [-List.map_map, -List.map_set]) (by simp [-List.map_map, -List.map_set]) (by simp) ?_
      simp only [go_sem, ↓reduceIte, Nat.reduceEqDiff, Nat.reduceLT, Nat.reduceAdd, Nat.reduceSub, Int.reduceLE, Int.reduceToNat, reduceCtorEq, g2, List.take_length, hdd]
      exact again_ren (j - 1) ⟨[(0, .ptr 0 0), (5, .str (K.drop (16 * (i + 1 + 1)))), (6, .ptr 2 0)], [some ⟨false, [.ptr 1 0, .str K]⟩, some ⟨false, T.map .u8⟩, some ⟨false, (encS t K R (i + 1)).map .u8⟩]⟩ [0, 1, 2] (by omega) rfl (by simp) rfl (by decide) (by simp [slotsOk, St.get, lookS, -List.map_map, -List.map_set]) (by simp [-List.map_map, -List.map_set]) ⟨i + 1, by omega, rfl⟩
    · have hl' : ¬ (16 : Int) < (D.length : Int) := by omega
      have had := add_spec (rowsB 1 s1) D (rowsB_length _ _) (by omega) (by omega)
      have hn : encS t K R (i + 1) = xorB (rowsB 1 s1) D := by rw [hes, if_neg hlast]
      rw [← hn] at had
      simp only [go_sem, ↓reduceIte, Nat.reduceEqDiff, Nat.reduceLT, Nat.reduceAdd, reduceCtorEq, ← hD, hne]
      refine goCall_mem [2, 1] (hth) (by kernel_rfl) (by simp [-List.map_map, -List.map_set]) rfl (by simp [-List.map_map, -List.map_set]) (by decide) (by simp [-List.map_map, -List.map_set]) (by simp [-List.map_map, -List.map_set]) (by simp [-List.map_map, -List.map_set]) (by simp [-List.map_map, -List.map_set]) (by simp) ?_
      simp only [go_sem, ↓reduceIte, Nat.reduceEqDiff, Nat.reduceLT, Nat.reduceAdd, Nat.reduceSub, reduceCtorEq]
      refine goCall_mem [2] (hro) (by kernel_rfl) (by simp [-List.map_map, -List.map_set]) rfl (by simp [-List.map_map, -List.map_set]) (by decide) (by simp [-List.map_map, -List.map_set]) (by simp [-List.map_map, -List.map_set]) (by simp [-List.map_map, -List.map_set]) (by simp [-List.map_map, -List.map_set]) (by simp) ?_
      simp only [go_sem, ↓reduceIte, Nat.reduceEqDiff, Nat.reduceLT, Nat.reduceAdd, Nat.reduceSub, reduceCtorEq, hl']
      refine goCall_mem [2] (had) (by kernel_rfl) (by simp [-List.map_map, -List.map_set]) rfl (by simp [-List.map_map, -List.map_set]) (by decide) (by simp [-List.map_map, -List.map_set]) (by simp [-List.map_map, -List.map_set]) (by simp [-List.map_map, -List.map_set]) (by simp [-List.map_map, -List.map_set]) (by simp) ?_
      simp only [go_sem, ↓reduceIte, Nat.reduceEqDiff, Nat.reduceLT, Nat.reduceAdd, Nat.reduceSub, Int.reduceLE, Int.reduceToNat, reduceCtorEq, g2, List.take_length, hdd]
      exact again_ren (j - 1) ⟨[(0, .ptr 0 0), (5, .str (K.drop (16 * (i + 1 + 1)))), (6, .ptr 2 0)], [some ⟨false, [.ptr 1 0, .str K]⟩, some ⟨false, T.map .u8⟩, some ⟨false, (encS t K R (i + 1)).map .u8⟩]⟩ [0, 1, 2] (by omega) rfl (by simp) rfl (by decide) (by simp [slotsOk, St.get, lookS, -List.map_map, -List.map_set]) (by simp [-List.map_map, -List.map_set]) ⟨i + 1, by omega, rfl⟩
  · obtain rfl : i = R - 1 := by omega
    have hD : K.drop (16 * (R - 1 + 1)) = [] := List.drop_of_length_le (by omega)
    simp only [go_sem, ↓reduceIte, Nat.reduceEqDiff, Nat.reduceLT, Int.reduceLE, Int.reduceToNat, Int.reduceSub, reduceCtorEq, hD, hel, List.take_of_length_le]
    exact Fin.ren [0, 1] (by simp) (by simp) (by rfl) (by decide) (by simp [-List.map_map, -List.map_set]) (by simp [-List.map_map, -List.map_set])
end Go.Vm
end
section
namespace Go.Vm
open Go.Proofs
set_option maxRecDepth 20000
/-- A block on its way out, behind i rounds. -/
def decS (t K : List (BitVec 8)) (R : Nat) : Nat → List (BitVec 8)
  | 0 => t
  | i + 1 =>
    let s := xorB (decS t K R i) (K.drop (16 * (R - 1 - i)))
    (rowsB 3 (if 0 < i then colB [14#8, 11#8, 13#8, 9#8] s else s)).map backG
end Go.Vm
end
section
namespace Go.Vm
open Go.Proofs
set_option maxRecDepth 20000
/-! Doubling, and what the columns do by it. -/
def dbl (x : BitVec 8) : BitVec 8 := gmul x 2#8
def ndb (x : Nat) : Nat := ngm 8 x 2 0
theorem dbl_chk : and (nall (fun x => and (and (Nat.beq (ngm 8 1 x 0) x) (and (Nat.beq (ngm 8 2 x 0) (ndb x)) (and (Nat.beq (ngm 8 3 x 0) (Nat.xor (ndb x) x)) (Nat.beq (ngm 8 x 3 0) (Nat.xor (ndb x) x))))) (and (and (Nat.beq (ngm 8 14 x 0) (Nat.xor (Nat.xor (ndb (ndb (ndb x))) (ndb (ndb x))) (ndb x))) (Nat.beq (ngm 8 11 x 0) (Nat.xor (Nat.xor (ndb (ndb (ndb x))) (ndb x)) x))) (and (Nat.beq (ngm 8 13 x 0) (Nat.xor (Nat.xor (ndb (ndb (ndb x))) (ndb (ndb x))) x)) (Nat.beq (ngm 8 9 x 0) (Nat.xor (ndb (ndb (ndb x))) x))))) 256) (nall (fun a => nall (fun b => Nat.beq (ndb (Nat.xor a b)) (Nat.xor (ndb a) (ndb b))) 256) 256) = true := by decide +kernel
theorem dbl_nat (x : BitVec 8) : (dbl x).toNat = ndb x.toNat := by unfold dbl ndb; rw [gmul_ngm]; rfl
theorem gmuls (x : BitVec 8) : gmul 1#8 x = x ∧ gmul 2#8 x = dbl x ∧ gmul 3#8 x = dbl x ^^^ x ∧ gmul x 3#8 = dbl x ^^^ x ∧ gmul 14#8 x = dbl (dbl (dbl x)) ^^^ dbl (dbl x) ^^^ dbl x ∧ gmul 11#8 x = dbl (dbl (dbl x)) ^^^ dbl x ^^^ x ∧ gmul 13#8 x = dbl (dbl (dbl x)) ^^^ dbl (dbl x) ^^^ x ∧ gmul 9#8 x = dbl (dbl (dbl x)) ^^^ x := by
  have hc := dbl_chk
  rw [Bool.and_eq_true] at hc
  have h := nall_get hc.1 x.toNat x.isLt
  simp only [Bool.and_eq_true] at h
  obtain ⟨⟨a1, a2, a3, a4⟩, ⟨b1, b2⟩, b3, b4⟩ := h
  refine ⟨?_, ?_, ?_, ?_, ?_, ?_, ?_, ?_⟩ <;> apply BitVec.eq_of_toNat_eq <;> simp only [BitVec.toNat_xor, dbl_nat, gmul_ngm]
  · exact Nat.eq_of_beq_eq_true a1
  · exact Nat.eq_of_beq_eq_true a2
  · exact Nat.eq_of_beq_eq_true a3
  · exact Nat.eq_of_beq_eq_true a4
  · exact Nat.eq_of_beq_eq_true b1
  · exact Nat.eq_of_beq_eq_true b2
  · exact Nat.eq_of_beq_eq_true b3
  · exact Nat.eq_of_beq_eq_true b4
/-- A word's column, as the reference mixes her. -/
def mixq (w : List (BitVec 8)) (q : Nat) : BitVec 8 := gmul (w.getD (q % 4) 0) 2#8 ^^^ gmul (w.getD ((q + 1) % 4) 0) 3#8 ^^^ w.getD ((q + 2) % 4) 0 ^^^ w.getD ((q + 3) % 4) 0
/-- The first j bytes of the mixed block. -/
def mixR (s : List (BitVec 8)) : List (BitVec 8) := mk16 fun j => mixq ((s.take (4 * (j / 4) + 4)).drop (4 * (j / 4))) (j % 4)
/-- A byte of a mixed column. -/
def mq (a b c d : BitVec 8) : BitVec 8 := gmul a 2#8 ^^^ gmul b 3#8 ^^^ c ^^^ d
theorem mq_eq (a b c d : BitVec 8) : mq a b c d = dbl a ^^^ (dbl b ^^^ b) ^^^ c ^^^ d := by
  unfold mq; rw [(gmuls b).2.2.2.1]; rfl
def colsOf (f : BitVec 8 → BitVec 8 → BitVec 8 → BitVec 8 → BitVec 8) : List (BitVec 8) → List (BitVec 8)
  | a :: b :: c :: d :: l => f a b c d :: f b c d a :: f c d a b :: f d a b c :: colsOf f l
  | _ => []
theorem colsOf_congr (f g : BitVec 8 → BitVec 8 → BitVec 8 → BitVec 8 → BitVec 8) (h : ∀ a b c d, f a b c d = g a b c d) (s : List (BitVec 8)) : colsOf f s = colsOf g s := by rw [show f = g from funext fun a => funext fun b => funext fun c => funext fun d => h a b c d]
theorem mixR_cols (s : List (BitVec 8)) (h : s.length = 16) : mixR s = colsOf mq s := by
  match s, h with
  | [s0, s1, s2, s3, s4, s5, s6, s7, s8, s9, s10, s11, s12, s13, s14, s15], _ => rfl
theorem colB_cols (x y z u : BitVec 8) (s : List (BitVec 8)) (h : s.length = 16) : colB [x, y, z, u] s = colsOf (fun a b c d => gmul x a ^^^ gmul y b ^^^ gmul z c ^^^ gmul u d) s := by
  match s, h with
  | [s0, s1, s2, s3, s4, s5, s6, s7, s8, s9, s10, s11, s12, s13, s14, s15], _ =>
    have e1 : ∀ a b c d, (0#8 ^^^ gmul x a ^^^ gmul y b ^^^ gmul z c ^^^ gmul u d : BitVec 8) = gmul x a ^^^ gmul y b ^^^ gmul z c ^^^ gmul u d := fun a b c d => by rw [BitVec.zero_xor]
    have e2 : ∀ a b c d, (0#8 ^^^ gmul u d ^^^ gmul x a ^^^ gmul y b ^^^ gmul z c : BitVec 8) = gmul x a ^^^ gmul y b ^^^ gmul z c ^^^ gmul u d := fun a b c d => by rw [BitVec.zero_xor]; ac_rfl
    have e3 : ∀ a b c d, (0#8 ^^^ gmul z c ^^^ gmul u d ^^^ gmul x a ^^^ gmul y b : BitVec 8) = gmul x a ^^^ gmul y b ^^^ gmul z c ^^^ gmul u d := fun a b c d => by rw [BitVec.zero_xor]; ac_rfl
    have e4 : ∀ a b c d, (0#8 ^^^ gmul y b ^^^ gmul z c ^^^ gmul u d ^^^ gmul x a : BitVec 8) = gmul x a ^^^ gmul y b ^^^ gmul z c ^^^ gmul u d := fun a b c d => by rw [BitVec.zero_xor]; ac_rfl
    have key : ∀ a b c d l, [0#8 ^^^ gmul x a ^^^ gmul y b ^^^ gmul z c ^^^ gmul u d, 0#8 ^^^ gmul u a ^^^ gmul x b ^^^ gmul y c ^^^ gmul z d, 0#8 ^^^ gmul z a ^^^ gmul u b ^^^ gmul x c ^^^ gmul y d, 0#8 ^^^ gmul y a ^^^ gmul z b ^^^ gmul u c ^^^ gmul x d] ++ colsOf (fun a b c d => gmul x a ^^^ gmul y b ^^^ gmul z c ^^^ gmul u d) l = colsOf (fun a b c d => gmul x a ^^^ gmul y b ^^^ gmul z c ^^^ gmul u d) (a :: b :: c :: d :: l) := fun a b c d l => by
      rw [e1, e2, e3, e4]; rfl
    rw [← key, ← key, ← key, ← key]
    rfl
theorem mixR_col (s : List (BitVec 8)) (h : s.length = 16) : mixR s = colB [2#8, 3#8, 1#8, 1#8] s := by
  rw [mixR_cols s h, colB_cols _ _ _ _ s h]
  refine colsOf_congr _ _ (fun a b c d => ?_) s
  rw [mq_eq, (gmuls a).2.1, (gmuls b).2.2.1, (gmuls c).1, (gmuls d).1]
theorem mixR_length (s : List (BitVec 8)) : (mixR s).length = 16 := mk16_length _
def rowR (s : List (BitVec 8)) : List (BitVec 8) := mk16 fun i => s.getD (5 * i % 16) 0
theorem rowR_row (s : List (BitVec 8)) (h : s.length = 16) : rowR s = rowsB 1 s := by
  match s, h with
  | [s0, s1, s2, s3, s4, s5, s6, s7, s8, s9, s10, s11, s12, s13, s14, s15], _ => rfl
end Go.Vm
end
section
namespace Go.Vm
open Go.Proofs
set_option maxRecDepth 20000
theorem xorB_take (s k : List (BitVec 8)) (h : s.length = 16) : xorB s (k.take 16) = xorB s k := by
  unfold xorB
  have h1 : (List.zipWith (fun a b => a ^^^ b) s k).length ≤ 16 := by rw [List.length_zipWith]; omega
  rw [← List.take_of_length_le h1, List.take_zipWith, List.take_of_length_le (l := s) (by omega)]
theorem drop_take_one (s : List (BitVec 8)) (a : Nat) (h : a < s.length) : (s.take (a + 1)).drop a = [s.getD a 0] := by
  rw [take_snoc h, List.drop_append_of_le_length (by rw [List.length_take]; omega), List.drop_of_length_le (by rw [List.length_take]; omega), List.nil_append]
theorem mk16_take (f : Nat → BitVec 8) (i : Nat) (h : i < 16) : (mk16 f).take i ++ [f i] = (mk16 f).take (i + 1) := by
  rw [take_snoc (by rw [mk16_length]; exact h), mk16_getD f i h]
set_option maxHeartbeats 2000000 in
theorem REncrypt_spec (t S : List (BitVec 8)) (us : List (List (BitVec 8))) (R N : Nat) (hN : N = 4 * R) (ht : t.length = 16) (hR : 2 ≤ R) (hR2 : R ≤ 20) (hus : us.length = N) (h4 : ∀ w ∈ us, w.length = 4) (K : List (BitVec 8)) (hKe : K = us.flatten) (hK : K.length = 16 * R) (hsub : ∀ (s : List (BitVec 8)), s.length ≤ 1000 → Spec0 Tryz.prog 67 [.agg [.slice 0 0 256 1, .slice 1 0 N 1], .str s] [some ⟨false, S.map .u8⟩, some ⟨false, us.map .str⟩] (.str (subAll s)) [some ⟨false, S.map .u8⟩, some ⟨false, us.map .str⟩]) : Spec0 Tryz.prog 50 [.agg [.slice 0 0 256 1, .slice 1 0 N 1], .str t] [some ⟨false, S.map .u8⟩, some ⟨false, us.map .str⟩] (.str (encS t K R (R - 1))) [some ⟨false, S.map .u8⟩, some ⟨false, us.map .str⟩] := by
  have e0 : w64 ((N : Int).tdiv 4) = (R : Int) := by rw [show (4 : Int) = ((4 : Nat) : Int) from rfl, tdiv_nat, w64_of (by omega) (by omega)]; omega
  have e1 : w64 ((R : Int) - 1) = ((R - 1 : Nat) : Int) := by rw [w64_of (by omega) (by omega)]; omega
  have hkey : ∀ i, i < R → Spec0 Tryz.prog 68 [.agg [.slice 0 0 256 1, .slice 1 0 N 1], .i64 i] [some ⟨false, S.map .u8⟩, some ⟨false, us.map .str⟩] (.str ((K.drop (16 * i)).take 16)) [some ⟨false, S.map .u8⟩, some ⟨false, us.map .str⟩] := fun i hi => by
    have := key_spec us S i N hus (by omega) (by omega) h4
    rwa [← hKe] at this
  have hkl : ∀ i, i < R → ((K.drop (16 * i)).take 16).length = 16 := fun i hi => by rw [List.length_take, List.length_drop]; omega
  have hk0 := hkey 0 (by omega)
  have hx0 := RXor_spec t ((K.drop (16 * 0)).take 16) (by rw [hkl 0 (by omega)]; omega) (by omega)
  rw [xorB_take _ _ ht] at hx0
  rw [Nat.mul_zero, List.drop_zero] at hx0 hk0
  have hen0 : xorB t K = encS t K R 0 := rfl
  refine spec0_of_vc (by kernel_rfl) (fn := Tryz.f50) Tryz.func50 rfl (by show 2 ≤ 101; decide) (go_start ?_)
  simp only [go_sem, ↓reduceIte, Nat.reduceEqDiff, Nat.reduceLT, Nat.reduceAdd, Int.reduceEq, Tryz.ntmps50, e0, e1]
  refine goCall_mem [0, 1] (hk0) (by kernel_rfl) (by simp [-List.map_map, -List.map_set]) rfl (by simp [-List.map_map, -List.map_set]) (by decide) (by simp [-List.map_map, -List.map_set]) (by simp [-List.map_map, -List.map_set]) (by simp [-List.map_map, -List.map_set]) (by simp [-List.map_map, -List.map_set]) (by simp) ?_
  simp only [go_sem, ↓reduceIte, Nat.reduceEqDiff, Nat.reduceLT, Nat.reduceAdd, Nat.reduceSub]
  refine goCall_pure0 (hx0) ?_
  simp only [go_sem, ↓reduceIte, Nat.reduceLT, hen0]
  refine go_loop (fun ji st => ∃ i : Nat, i + ji = R - 1 ∧ st = ⟨[(1, .str (encS t K R i)), (2, .ptr 2 0), (5, .i64 (R - 1 : Nat)), (6, .i64 (i + 1 : Nat))], [some ⟨false, S.map .u8⟩, some ⟨false, us.map .str⟩, some ⟨false, [.slice 0 0 256 1, .slice 1 0 N 1]⟩]⟩) ?_ ?_
  · exact start_mk (R - 1) ⟨[(1, .str (encS t K R (0 : Nat))), (2, .ptr 2 0), (5, .i64 (R - 1 : Nat)), (6, .i64 ((0 : Nat) + 1 : Nat))], [some ⟨false, S.map .u8⟩, some ⟨false, us.map .str⟩, some ⟨false, [.slice 0 0 256 1, .slice 1 0 N 1]⟩]⟩ (by simp [St.get, lookS, -List.map_set, -List.map_map]) rfl (fun _ _ h => h) ⟨0, by omega, rfl⟩
  rintro ji st ⟨i, hi, rfl⟩ _
  simp only [go_sem, ↓reduceIte, Nat.reduceEqDiff, Nat.reduceLT, Nat.reduceAdd]
  have hel := encS_length t K R ht hK i (by omega)
  by_cases hl : i < R - 1
  · have hl' : ((i + 1 : Nat) : Int) ≤ ((R - 1 : Nat) : Int) := by omega
    have hsu := hsub (encS t K R i) (by omega)
    have hsl := subAll_length (encS t K R i)
    have hes : encS t K R (i + 1) = xorB (if i + 2 < R then mixR (rowR (subAll (encS t K R i))) else rowR (subAll (encS t K R i))) (K.drop (16 * (i + 1))) := by
      rw [rowR_row _ (by omega), mixR_col _ (rowsB_length _ _)]; rfl
    rw [hel] at hsl
    generalize hs1 : subAll (encS t K R i) = s1 at *
    simp only [go_sem, ↓reduceIte, hl']
    refine goCall_mem [0, 1] (hsu) (by kernel_rfl) (by simp [-List.map_map, -List.map_set]) rfl (by simp [-List.map_map, -List.map_set]) (by decide) (by simp [-List.map_map, -List.map_set]) (by simp [-List.map_map, -List.map_set]) (by simp [-List.map_map, -List.map_set]) (by simp [-List.map_map, -List.map_set]) (by simp) ?_
    simp only [go_sem, ↓reduceIte, Nat.reduceLT, Nat.reduceAdd, Nat.reduceSub]
    refine go_loop (fun jp st => ∃ p : Nat, p + jp = 16 ∧ st = ⟨[(2, .ptr 2 0), (5, .i64 (R - 1 : Nat)), (6, .i64 (i + 1 : Nat)), (7, .str s1), (8, .str ((rowR s1).take p)), (31, .i64 p)], [some ⟨false, S.map .u8⟩, some ⟨false, us.map .str⟩, some ⟨false, [.slice 0 0 256 1, .slice 1 0 N 1]⟩]⟩) ?_ ?_
    · exact start_mk (16) ⟨[(2, .ptr 2 0), (5, .i64 (R - 1 : Nat)), (6, .i64 (i + 1 : Nat)), (7, .str s1), (8, .str ((rowR s1).take (0 : Nat))), (31, .i64 (0 : Nat))], [some ⟨false, S.map .u8⟩, some ⟨false, us.map .str⟩, some ⟨false, [.slice 0 0 256 1, .slice 1 0 N 1]⟩]⟩ (by simp [St.get, lookS, -List.map_set, -List.map_map, List.take_zero]) rfl (fun _ _ h => h) ⟨0, by omega, rfl⟩
    rintro jp st ⟨p, hp, rfl⟩ _
    simp only [go_sem, ↓reduceIte, Nat.reduceEqDiff, Nat.reduceLT, Int.reduceEq]
    by_cases hp16 : p < 16
    · have hp' : (p : Int) < 16 := by omega
      have m1 : w64 (5 * (p : Int)) = ((5 * p : Nat) : Int) := by rw [w64_of (by omega) (by omega)]; omega
      have m2 : ((5 * p : Nat) : Int).tmod 16 = ((5 * p % 16 : Nat) : Int) := rfl
      have m3 : w64 (((5 * p % 16 : Nat) : Int) + 1) = ((5 * p % 16 + 1 : Nat) : Int) := by rw [w64_of (by omega) (by omega)]; omega
      have m4 : (0 : Int) ≤ ((5 * p % 16 : Nat) : Int) := by omega
      have m5 : ((5 * p % 16 : Nat) : Int) ≤ ((5 * p % 16 + 1 : Nat) : Int) := by omega
      have m6 : ((5 * p % 16 + 1 : Nat) : Int) ≤ 16 := by omega
      have hd1 := drop_take_one s1 (5 * p % 16) (by omega)
      have hn : (rowR s1).take p ++ [s1.getD (5 * p % 16) 0] = (rowR s1).take (p + 1) := mk16_take _ p hp16
      simp only [go_sem, ↓reduceIte, hp', m1, m2, m3, m4, m5, m6, hsl, hd1, hn]
      refine ⟨by omega, ?_⟩
      refine again_mk (jp - 1) ⟨[(2, .ptr 2 0), (5, .i64 (R - 1 : Nat)), (6, .i64 (i + 1 : Nat)), (7, .str s1), (8, .str ((rowR s1).take (p + 1 : Nat))), (31, .i64 (p + 1 : Nat))], [some ⟨false, S.map .u8⟩, some ⟨false, us.map .str⟩, some ⟨false, [.slice 0 0 256 1, .slice 1 0 N 1]⟩]⟩ (by omega) ?_ rfl (fun _ _ h => h) ⟨p + 1, by omega, rfl⟩
      have hw1 : w64 ((p : Int) + 1) = ((p + 1 : Nat) : Int) := by rw [w64_of (by omega) (by omega)]; omega
      simp [St.get, lookS, hw1, -List.map_set, -List.map_map]
    · obtain rfl : p = 16 := by omega
      have hp' : ¬ ((16 : Nat) : Int) < 16 := by omega
      have hrl : (rowR s1).length = 16 := mk16_length _
      have hrt : (rowR s1).take 16 = rowR s1 := List.take_of_length_le (by omega)
      generalize hrs : rowR s1 = rs at *
      simp only [go_sem, ↓reduceIte, Int.reduceLT, hrt]
      obtain ⟨bs, hbs⟩ : ∃ bs, bs = if i + 2 < R then mixR rs else rs := ⟨_, rfl⟩
      have hbl : bs.length = 16 := by
        rw [hbs]; split
        · exact mixR_length _
        · exact hrl
      rw [← hbs] at hes
      have hky := hkey (i + 1) (by omega)
      have hx := RXor_spec bs ((K.drop (16 * (i + 1))).take 16) (by rw [hkl (i + 1) (by omega)]; omega) (by omega)
      rw [xorB_take _ _ hbl, ← hes] at hx
      refine go_loop (fun jc st => ∃ c : Nat, c + jc = 4 ∧ st = ⟨[(1, .str (bs.take (4 * c))), (2, .ptr 2 0), (5, .i64 (R - 1 : Nat)), (6, .i64 (i + 1 : Nat)), (8, .str rs), (46, .i64 c)], [some ⟨false, S.map .u8⟩, some ⟨false, us.map .str⟩, some ⟨false, [.slice 0 0 256 1, .slice 1 0 N 1]⟩]⟩) ?_ ?_
      · exact start_mk (4) ⟨[(1, .str (bs.take (4 * (0 : Nat)))), (2, .ptr 2 0), (5, .i64 (R - 1 : Nat)), (6, .i64 (i + 1 : Nat)), (8, .str rs), (46, .i64 (0 : Nat))], [some ⟨false, S.map .u8⟩, some ⟨false, us.map .str⟩, some ⟨false, [.slice 0 0 256 1, .slice 1 0 N 1]⟩]⟩ (by simp [St.get, lookS, -List.map_set, -List.map_map, List.take_zero]) rfl (fun _ _ h => h) ⟨0, by omega, rfl⟩
      rintro jc st ⟨c, hc, rfl⟩ _
      simp only [go_sem, ↓reduceIte, Nat.reduceEqDiff, Nat.reduceLT, Nat.reduceAdd]
      by_cases hc4 : c < 4
      · have hc' : (c : Int) < 4 := by omega
        have n1 : w64 (4 * (c : Int)) = ((4 * c : Nat) : Int) := by rw [w64_of (by omega) (by omega)]; omega
        have n2 : w64 (((4 * c : Nat) : Int) + 4) = ((4 * c + 4 : Nat) : Int) := by rw [w64_of (by omega) (by omega)]; omega
        have n4 : (0 : Int) ≤ ((4 * c : Nat) : Int) := by omega
        have n5 : ((4 * c : Nat) : Int) ≤ ((4 * c + 4 : Nat) : Int) := by omega
        have n6 : ((4 * c + 4 : Nat) : Int) ≤ 16 := by omega
        have hw8 : w64 ((c : Int) + 1) = ((c + 1 : Nat) : Int) := by rw [w64_of (by omega) (by omega)]; omega
        by_cases hlast : i + 2 < R
        · have hl2 : (((i + 1 : Nat) : Int) = ((R - 1 : Nat) : Int)) = False := eq_false (by omega)
          rw [if_pos hlast] at hbs
          subst hbs
          obtain ⟨w, hw⟩ : ∃ w, w = (rs.take (4 * c + 4)).drop (4 * c) := ⟨_, rfl⟩
          have hwl : w.length = 4 := by rw [hw, List.length_drop, List.length_take]; omega
          simp only [go_sem, ↓reduceIte, hc', n1, n2, n4, n5, n6, hrl, hl2, ← hw]
          refine go_loop (fun jq st => ∃ q : Nat, q + jq = 4 ∧ st = ⟨[(1, .str ((mixR rs).take (4 * c + q))), (2, .ptr 2 0), (5, .i64 (R - 1 : Nat)), (6, .i64 (i + 1 : Nat)), (8, .str rs), (11, .str w), (46, .i64 c), (62, .i64 q)], [some ⟨false, S.map .u8⟩, some ⟨false, us.map .str⟩, some ⟨false, [.slice 0 0 256 1, .slice 1 0 N 1]⟩]⟩) ?_ ?_
          · exact start_mk (4) ⟨[(1, .str ((mixR rs).take (4 * c + (0 : Nat)))), (2, .ptr 2 0), (5, .i64 (R - 1 : Nat)), (6, .i64 (i + 1 : Nat)), (8, .str rs), (11, .str w), (46, .i64 c), (62, .i64 (0 : Nat))], [some ⟨false, S.map .u8⟩, some ⟨false, us.map .str⟩, some ⟨false, [.slice 0 0 256 1, .slice 1 0 N 1]⟩]⟩ (by simp [St.get, lookS, -List.map_set, -List.map_map, Nat.add_zero]) rfl (fun _ _ h => h) ⟨0, by omega, rfl⟩
          rintro jq st ⟨q, hq, rfl⟩ _
          simp only [go_sem, ↓reduceIte, Nat.reduceEqDiff, Nat.reduceLT, Nat.reduceAdd, Int.reduceLE, Int.reduceLT, BitVec.reduceOfInt]
          by_cases hq4 : q < 4
          · have hq' : (q : Int) < 4 := by omega
            have o0 : (0 : Int) ≤ (q : Int) := by omega
            have o1 : w64 ((q : Int) + 1) = ((q + 1 : Nat) : Int) := by rw [w64_of (by omega) (by omega)]; omega
            have o2 : w64 ((q : Int) + 2) = ((q + 2 : Nat) : Int) := by rw [w64_of (by omega) (by omega)]; omega
            have o3 : w64 ((q : Int) + 3) = ((q + 3 : Nat) : Int) := by rw [w64_of (by omega) (by omega)]; omega
            have r3 : ∀ k : Nat, ((k : Nat) : Int).tmod 4 = ((k % 4 : Nat) : Int) := fun k => rfl
            have u1 : ∀ k : Nat, (((k % 4 : Nat) : Int) < 4) = True := fun k => eq_true (by omega)
            have u2 : ∀ k : Nat, ((0 : Int) ≤ (k : Int)) = True := fun k => eq_true (by omega)
            have hv : mixq w q = rmul (w.getD q 0) 2#8 ^^^ rmul (w.getD ((q + 1) % 4) 0) 3#8 ^^^ w.getD ((q + 2) % 4) 0 ^^^ w.getD ((q + 3) % 4) 0 := by unfold mixq; rw [gmul_rmul, gmul_rmul, Nat.mod_eq_of_lt hq4]
            have hn : (mixR rs).take (4 * c + q) ++ [mixq w q] = (mixR rs).take (4 * c + (q + 1)) := by
              have := mk16_take (fun j => mixq ((rs.take (4 * (j / 4) + 4)).drop (4 * (j / 4))) (j % 4)) (4 * c + q) (by omega)
              rw [show (4 * c + q) / 4 = c by omega, show (4 * c + q) % 4 = q by omega, ← hw] at this
              exact this
            have hc := chr_spec ((mixq w q).toNat : Int)
            rw [chr_byte] at hc
            simp only [go_sem, ↓reduceIte, hq', o0, hwl]
            refine goCallD_pure0 (RMul_spec _ _) ?_
            simp only [go_sem, ↓reduceIte, Nat.reduceEqDiff, Nat.reduceLT, Nat.reduceAdd, Int.reduceLE, Int.reduceLT, Int.reduceEq, BitVec.reduceOfInt, r3, u1, u2, hwl, o1]
            refine goCallD_pure0 (RMul_spec _ _) ?_
            simp only [go_sem, ↓reduceIte, Nat.reduceEqDiff, Nat.reduceLT, Nat.reduceAdd, Int.reduceEq, r3, u1, u2, hwl, o2, o3, ← hv]
            refine ⟨by kernel_rfl, ?_⟩
            refine goCall_pure0 (hc) ?_
            simp only [go_sem, ↓reduceIte, Nat.reduceEqDiff, Nat.reduceLT, Nat.reduceLeDiff, hn]
            refine ⟨by omega, ?_⟩
            refine again_mk (jq - 1) ⟨[(1, .str ((mixR rs).take (4 * c + (q + 1 : Nat)))), (2, .ptr 2 0), (5, .i64 (R - 1 : Nat)), (6, .i64 (i + 1 : Nat)), (8, .str rs), (11, .str w), (46, .i64 c), (62, .i64 (q + 1 : Nat))], [some ⟨false, S.map .u8⟩, some ⟨false, us.map .str⟩, some ⟨false, [.slice 0 0 256 1, .slice 1 0 N 1]⟩]⟩ (by omega) ?_ rfl (fun _ _ h => h) ⟨q + 1, by omega, rfl⟩
            have hw1 : w64 ((q : Int) + 1) = ((q + 1 : Nat) : Int) := by rw [w64_of (by omega) (by omega)]; omega
            simp [St.get, lookS, hw1, -List.map_set, -List.map_map]
          · obtain rfl : q = 4 := by omega
            have hq' : ¬ ((4 : Nat) : Int) < 4 := by omega
            simp only [go_sem, ↓reduceIte, Int.reduceLT]
            refine again_mk (jc - 1) ⟨[(1, .str ((mixR rs).take (4 * (c + 1 : Nat)))), (2, .ptr 2 0), (5, .i64 (R - 1 : Nat)), (6, .i64 (i + 1 : Nat)), (8, .str rs), (46, .i64 (c + 1 : Nat))], [some ⟨false, S.map .u8⟩, some ⟨false, us.map .str⟩, some ⟨false, [.slice 0 0 256 1, .slice 1 0 N 1]⟩]⟩ (by omega) ?_ rfl (fun _ _ h => h) ⟨c + 1, by omega, rfl⟩
            have hw1 : w64 ((c : Int) + 1) = ((c + 1 : Nat) : Int) := by rw [w64_of (by omega) (by omega)]; omega
            simp [St.get, lookS, hw1, -List.map_set, -List.map_map, Nat.mul_add]
        · have hl2 : (((i + 1 : Nat) : Int) = ((R - 1 : Nat) : Int)) = True := eq_true (by omega)
          rw [if_neg hlast] at hbs
          subst hbs
          have hap : bs.take (4 * c) ++ (bs.take (4 * c + 4)).drop (4 * c) = bs.take (4 * (c + 1)) := by
            rw [List.drop_take, show 4 * c + 4 - 4 * c = 4 by omega, ← List.take_add]; rfl
          simp only [go_sem, ↓reduceIte, hc', n1, n2, n4, n5, n6, hrl, hl2, hap]
          refine ⟨by omega, ?_⟩
          refine again_mk (jc - 1) ⟨[(1, .str (bs.take (4 * (c + 1 : Nat)))), (2, .ptr 2 0), (5, .i64 (R - 1 : Nat)), (6, .i64 (i + 1 : Nat)), (8, .str bs), (46, .i64 (c + 1 : Nat))], [some ⟨false, S.map .u8⟩, some ⟨false, us.map .str⟩, some ⟨false, [.slice 0 0 256 1, .slice 1 0 N 1]⟩]⟩ (by omega) ?_ rfl (fun _ _ h => h) ⟨c + 1, by omega, rfl⟩
          have hw1 : w64 ((c : Int) + 1) = ((c + 1 : Nat) : Int) := by rw [w64_of (by omega) (by omega)]; omega
          simp [St.get, lookS, hw1, -List.map_set, -List.map_map]
      · obtain rfl : c = 4 := by omega
        have hc' : ¬ ((4 : Nat) : Int) < 4 := by omega
        have hbt : bs.take (4 * 4) = bs := List.take_of_length_le (by omega)
        simp only [go_sem, ↓reduceIte, Nat.reduceMul, Int.reduceLT, hbt]
        refine goCall_mem [0, 1] (hky) (by kernel_rfl) (by simp [-List.map_map, -List.map_set]) rfl (by simp [-List.map_map, -List.map_set]) (by decide) (by simp [-List.map_map, -List.map_set]) (by simp [-List.map_map, -List.map_set]) (by simp [-List.map_map, -List.map_set]) (by simp [-List.map_map, -List.map_set]) (by simp) ?_
        simp only [go_sem, ↓reduceIte, Nat.reduceEqDiff, Nat.reduceLT, Nat.reduceAdd, Nat.reduceSub]
        refine goCall_pure0 (hx) ?_
        simp only [go_sem, ↓reduceIte, Nat.reduceEqDiff, Nat.reduceLT]
        have hw6 : w64 (((i + 1 : Nat) : Int) + 1) = ((i + 1 + 1 : Nat) : Int) := by rw [w64_of (by omega) (by omega)]; omega
        refine again_ren (ji - 1) ⟨[(1, .str (encS t K R (i + 1))), (2, .ptr 2 0), (5, .i64 (R - 1 : Nat)), (6, .i64 (i + 1 + 1 : Nat))], [some ⟨false, S.map .u8⟩, some ⟨false, us.map .str⟩, some ⟨false, [.slice 0 0 256 1, .slice 1 0 N 1]⟩]⟩ [0, 1, 2] (by omega) rfl (by simp) rfl (by decide) (by simp only [slotsOk, St.get, lookS, hw6]; simp [-List.map_map, -List.map_set]) (by simp [-List.map_map, -List.map_set]) ⟨i + 1, by omega, rfl⟩
  · obtain rfl : i = R - 1 := by omega
    have hl' : ¬ ((R - 1 + 1 : Nat) : Int) ≤ ((R - 1 : Nat) : Int) := by omega
    simp only [go_sem, ↓reduceIte, hl']
    exact Fin.ren [0, 1] (by simp) (by simp) (by rfl) (by decide) (by simp [-List.map_map, -List.map_set]) (by simp [-List.map_map, -List.map_set])
end Go.Vm
end
section
namespace Go.Vm
open Go.Proofs
set_option maxRecDepth 20000
theorem New_spec (key : List (BitVec 8)) (n : Nat) (hn : n = 4 ∨ n = 8) (hl : key.length = 4 * n) : Spec0 Tryz.prog 134 [.str key] [] (.ptr 0 0) [some ⟨false, [.ptr 1 0, .str (wl key n (4 * (n + 7))).flatten]⟩, some ⟨false, (mkT 256).map .u8⟩] := by
  have hk := isKey_spec key
  rw [decide_eq_true (by omega)] at hk
  have he := expand_spec key n hn hl
  have hm := made_spec
  generalize mkT 256 = T at *
  refine spec0_of_vc (by kernel_rfl) (fn := Tryz.f134) Tryz.func134 rfl (by show 1 ≤ 14; decide) (go_start ?_)
  simp only [go_sem, ↓reduceIte, Nat.reduceLT, reduceCtorEq, Tryz.ntmps134]
  refine goCall_pure0 (hk) ?_
  simp only [go_sem, ↓reduceIte, Nat.reduceLT]
  refine goCall_mem [] (hm) (by kernel_rfl) (by simp [-List.map_map, -List.map_set]) rfl (by simp [-List.map_map, -List.map_set]) (by decide) (by simp [-List.map_map, -List.map_set]) (by simp [-List.map_map, -List.map_set]) (by simp [-List.map_map, -List.map_set]) (by simp [-List.map_map, -List.map_set]) (by simp) ?_
  simp only [go_sem, ↓reduceIte, Nat.reduceEqDiff, Nat.reduceLT, Nat.reduceSub, reduceCtorEq]
  refine goCall_mem [0] (he) (by kernel_rfl) (by simp [-List.map_map, -List.map_set]) rfl (by simp [-List.map_map, -List.map_set]) (by decide) (by simp [-List.map_map, -List.map_set]) (by simp [-List.map_map, -List.map_set]) (by simp [-List.map_map, -List.map_set]) (by simp [-List.map_map, -List.map_set]) (by simp) ?_
  simp only [go_sem, ↓reduceIte, Nat.reduceEqDiff, Nat.reduceLT, Nat.reduceLeDiff, Nat.reduceAdd, Nat.reduceSub]
  exact Fin.ren [1, 0] (by simp) (by simp) (by rfl) (by decide) (by simp [-List.map_map, -List.map_set]) (by simp [-List.map_map, -List.map_set])
end Go.Vm
end
section
namespace Go.Vm
open Go.Proofs
set_option maxRecDepth 20000
/-- What gcm.check answers. -/
def gchk (k n l t : List (BitVec 8)) (m : Int) : Int := if k.length ≠ 32 ∨ n.length ≠ 12 then 1 else if 2000 < l.length ∨ m < t.length then 2 else 0
theorem gcheck_spec (k n l t : List (BitVec 8)) (m : Int) : PureFn Tryz.prog 133 [.str k, .str n, .str l, .str t, .i64 m] (.i64 (gchk k n l t m)) := by
  by_cases h1 : k.length = 32
  · have h1' : (k.length : Int) = 32 := by omega
    by_cases h2 : n.length = 12
    · have h2' : (n.length : Int) = 12 := by omega
      by_cases h3 : 2000 < l.length
      · have h3' : (2000 : Int) < (l.length : Int) := by omega
        have e : gchk k n l t m = 2 := by simp [gchk, h1, h2, h3]
        rw [e]
        refine pure_of_vc (by kernel_rfl) (fn := Tryz.f133) (by kernel_rfl) Tryz.func133 rfl (by show 5 ≤ 30; decide) (by simp [lows, V.low]) (by simp [V.low]) (go_start ?_)
        simp only [go_sem, ↓reduceIte, Nat.reduceEqDiff, Nat.reduceLT, Nat.reduceAdd, reduceCtorEq, Tryz.ntmps133, Tryz.results133, h1', h2', h3']
      · have h3' : ¬ (2000 : Int) < (l.length : Int) := by omega
        by_cases h4 : m < (t.length : Int)
        · have e : gchk k n l t m = 2 := by simp [gchk, h1, h2, h3, h4]
          rw [e]
          refine pure_of_vc (by kernel_rfl) (fn := Tryz.f133) (by kernel_rfl) Tryz.func133 rfl (by show 5 ≤ 30; decide) (by simp [lows, V.low]) (by simp [V.low]) (go_start ?_)
          simp only [go_sem, ↓reduceIte, Nat.reduceEqDiff, Nat.reduceLT, Nat.reduceAdd, reduceCtorEq, Tryz.ntmps133, Tryz.results133, h1', h2', h3', h4]
        · have e : gchk k n l t m = 0 := by simp [gchk, h1, h2, h3, h4]
          rw [e]
          refine pure_of_vc (by kernel_rfl) (fn := Tryz.f133) (by kernel_rfl) Tryz.func133 rfl (by show 5 ≤ 30; decide) (by simp [lows, V.low]) (by simp [V.low]) (go_start ?_)
          simp only [go_sem, ↓reduceIte, Nat.reduceEqDiff, Nat.reduceLT, Nat.reduceAdd, reduceCtorEq, Tryz.ntmps133, Tryz.results133, h1', h2', h3', h4]
    · have h2' : ¬ (n.length : Int) = 12 := by omega
      have e : gchk k n l t m = 1 := by simp [gchk, h1, h2]
      rw [e]
      refine pure_of_vc (by kernel_rfl) (fn := Tryz.f133) (by kernel_rfl) Tryz.func133 rfl (by show 5 ≤ 30; decide) (by simp [lows, V.low]) (by simp [V.low]) (go_start ?_)
      simp only [go_sem, ↓reduceIte, Nat.reduceEqDiff, Nat.reduceLT, Nat.reduceAdd, reduceCtorEq, Tryz.ntmps133, Tryz.results133, h1', h2']
  · have h1' : ¬ (k.length : Int) = 32 := by omega
    have e : gchk k n l t m = 1 := by simp [gchk, h1]
    rw [e]
    refine pure_of_vc (by kernel_rfl) (fn := Tryz.f133) (by kernel_rfl) Tryz.func133 rfl (by show 5 ≤ 30; decide) (by simp [lows, V.low]) (by simp [V.low]) (go_start ?_)
    simp only [go_sem, ↓reduceIte, Nat.reduceEqDiff, Nat.reduceLT, Nat.reduceAdd, reduceCtorEq, Tryz.ntmps133, Tryz.results133, h1']
theorem gblock_spec (n K T : List (BitVec 8)) (R : Nat) (c : Nat) (hn : n.length = 12) (hc : c ≤ 100000) (hR : 2 ≤ R) (hR2 : R ≤ 20) (hK : K.length = 16 * R) (hT : T.length = 512) (hf : ∀ b : BitVec 8, T.getD (0 + b.toNat) 0 = subC b) : Spec0 Tryz.prog 142 [.agg [.ptr 0 0, .str n], .i64 c] [some ⟨false, [.ptr 1 0, .str K]⟩, some ⟨false, T.map .u8⟩] (.str (encS (n ++ beB c 4) K R (R - 1))) [some ⟨false, [.ptr 1 0, .str K]⟩, some ⟨false, T.map .u8⟩] := by
  have ha := AppBig4_some n (BitVec.ofNat 64 c) (by omega)
  have hto : (BitVec.ofNat 64 c).toNat = c := by rw [BitVec.toNat_ofNat]; omega
  have hb : (beB c 4).length = 4 := by rw [← hto, beB4]; rfl
  rw [hto] at ha
  have he := Encrypt_spec (n ++ beB c 4) K T R (by rw [List.length_append]; omega) hR hR2 hK hT hf
  refine spec0_of_vc (by kernel_rfl) (fn := Tryz.f142) Tryz.func142 rfl (by show 2 ≤ 15; decide) (go_start ?_)
  simp only [go_sem, ↓reduceIte, Nat.reduceEqDiff, Nat.reduceLT, Nat.reduceAdd, Tryz.ntmps142]
  refine ⟨by omega, ?_⟩
  have htk : (n ++ beB c 4).take (n.length + 4) = n ++ beB c 4 := List.take_of_length_le (by rw [List.length_append]; omega)
  refine goCallD_mem [3] (ha) (by kernel_rfl) (by simp [-List.map_map, -List.map_set]) rfl (by simp [-List.map_map, -List.map_set]) (by decide) (by simp [-List.map_map, -List.map_set]) (by simp [-List.map_map, -List.map_set]) (by simp [-List.map_map, -List.map_set]) (by simp [-List.map_map, -List.map_set]) (by simp) ?_
  simp only [go_sem, ↓reduceIte, Nat.reduceEqDiff, Nat.reduceLT, Nat.reduceAdd, Nat.reduceSub, hb, htk]
  refine goCallD_read [0, 1] he (by kernel_rfl) (by simp [-List.map_map, -List.map_set]) rfl (by simp [-List.map_map, -List.map_set]) (by decide) (by simp [-List.map_map, -List.map_set]) (by simp [-List.map_map, -List.map_set]) (by simp [-List.map_map, -List.map_set]) (by simp [-List.map_map, -List.map_set]) (by simp) (by simp [memRes, oldsOf, sgNew, renO, Blk.ren, List.map_append, -List.map_map, -List.map_set]) ?_
  simp only [go_sem, ↓reduceIte, Nat.reduceLT, Nat.reduceAdd, Nat.reduceSub]
  refine ⟨by kernel_rfl, ?_⟩
  exact Fin.ren [0, 1] (by simp) (by simp) (by rfl) (by decide) (by simp [-List.map_map, -List.map_set]) (by simp [-List.map_map, -List.map_set])
end Go.Vm
end
